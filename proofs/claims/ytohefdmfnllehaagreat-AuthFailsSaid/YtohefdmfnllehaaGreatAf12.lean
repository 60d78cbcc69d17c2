/- Trees: a block read, a node. -/
import Derived.Test.YtohefdmfnllehaaGreatAf11
import Derived.Scope
namespace Go.Proofs.YtohefdmfnllehaaGreat.Tree
open Go Ev Sha Aes Orc Node
open Rig (RigP Rg rgM readR writeR z64 app_of)
set_option linter.unusedVariables false
set_option linter.unusedSimpArgs false
set_option maxRecDepth 100000
abbrev cT (c n : Nat) : Blk := ⟨c, .cells [pt n] 154⟩
attribute [local irreducible] dgV D vS mapK Instr.lookup Instr.mapUpdate Instr.makeMap Builtin.len_ treC readR
theorem cl_node (o : Orc) (a : TreA) (d : Int) (root : Dg) (tn c : Nat) (s : ByteArray) (hon : a.on = o.on) (hb : o.ts.length ≤ 1099511627000) :
    Fnc Tryz.prog 250 [.string s, pt c] (orcM o ++ [cT c tn, tB tn a d root]) (RetO o (nodeD o.ts s).1 (fun o' => orcM o' ++ [cT c tn, tB tn a d root]) (.tuple #[.agg (dgV (nodeD o.ts s).2).toArray, .int .i64 (sizeE s)])) := by
  obtain ⟨rn, on, sn, mn, kn⟩ := a
  simp only at hon
  subst hon
  refine fn_intro Tryz.func250 (by kernel_rfl) ?_
  repeat' ((conv => whnf); first
      | refine nw_z (fun n => ?_)
      | refine ld1_row treC_1 ?_
      | (refine call_go (node_ o s (by omega)) (.one takeG) (fun o' h1 h2 => ?_))
      | refine force_of ?_
      | refine need (dgV_len _) ?_
      | refine st_dg ?_
      | refine ldN_dg rfl ?_
      | refine ld1_lit ?_
      | refine ldN_lit ?_
      | refine nw (fun n => ?_)
      | refine bld ?_
      | refine st_lit rfl ?_
      | refine need (by first | rfl | omega) ?_
      | (refine wr (fun z hz => ?_); (try rw [Int.tdiv_eq_ediv_of_nonneg (by omega)] at hz); rw [w64 (by omega) (by omega)] at hz; subst hz)
      | (refine zv (fun z hz => ?_); (try rw [Int.tmod_eq_emod_of_nonneg (by omega)] at hz); subst hz)
      | (refine ifs (fun h => ?_) (fun h => ?_) <;> (try (exfalso; first | omega | with_reducible contradiction | with_reducible exact h rfl))))
  all_goals (conv => whnf)
  all_goals exact fin_g (A := orcM o' ++ [⟨c, _⟩, ⟨tn, _⟩]) (.grp takeG (.blk takeC (.blk takeC .nil))) ⟨o', h1, h2, rfl, rfl⟩
theorem cl_leaf (o : Orc) (a : TreA) (d : Int) (root : Dg) (tn c : Nat) (s : ByteArray) (hon : a.on = o.on) (hb : o.ts.length ≤ 1099511627000) :
    Fnc Tryz.prog 173 [.string s, pt c] (orcM o ++ [cT c tn, tB tn a d root]) (RetO o (leafD o.ts s).1 (fun o' => orcM o' ++ [cT c tn, tB tn a d root]) (.tuple #[.agg (dgV (leafD o.ts s).2).toArray, .int .i64 (sizeE s)])) := by
  obtain ⟨rn, on, sn, mn, kn⟩ := a
  simp only at hon
  subst hon
  refine fn_intro Tryz.func173 (by kernel_rfl) ?_
  repeat' ((conv => whnf); first
      | refine nw_z (fun n => ?_)
      | refine ld1_row treC_1 ?_
      | (refine call_go (leaf_ o s (by omega)) (.one takeG) (fun o' h1 h2 => ?_))
      | refine force_of ?_
      | refine need (dgV_len _) ?_
      | refine st_dg ?_
      | refine ldN_dg rfl ?_
      | refine ld1_lit ?_
      | refine ldN_lit ?_
      | refine nw (fun n => ?_)
      | refine bld ?_
      | refine st_lit rfl ?_
      | refine need (by first | rfl | omega) ?_
      | (refine wr (fun z hz => ?_); (try rw [Int.tdiv_eq_ediv_of_nonneg (by omega)] at hz); rw [w64 (by omega) (by omega)] at hz; subst hz)
      | (refine zv (fun z hz => ?_); (try rw [Int.tmod_eq_emod_of_nonneg (by omega)] at hz); subst hz)
      | (refine ifs (fun h => ?_) (fun h => ?_) <;> (try (exfalso; first | omega | with_reducible contradiction | with_reducible exact h rfl))))
  all_goals (conv => whnf)
  all_goals exact fin_g (A := orcM o' ++ [⟨c, _⟩, ⟨tn, _⟩]) (.grp takeG (.blk takeC (.blk takeC .nil))) ⟨o', h1, h2, rfl, rfl⟩
/-- A block read, which must have a sum. -/
noncomputable def readT (sf : List ByteArray → ByteArray → List ByteArray × Dg) (r : RigP) (ts : List ByteArray) (d at_ : Int) (want : Dg) : RigP × List ByteArray × ByteArray × Int :=
  if (readR r d at_).2.2 ≠ 0 then ((readR r d at_).1, ts, ByteArray.empty, (readR r d at_).2.2)
  else if dl (sf ts (readR r d at_).2.1).2 = dl want then ((readR r d at_).1, (sf ts (readR r d at_).2.1).1, (readR r d at_).2.1, 0)
  else ((readR r d at_).1, (sf ts (readR r d at_).2.1).1, ByteArray.empty, 12)
set_option maxHeartbeats 2000000 in
theorem tread (sf : List ByteArray → ByteArray → List ByteArray × Dg) (g : Rg) (o : Orc) (a : TreA) (d : Int) (root : Dg) (tn c : Nat) (at_ : Int) (want : Dg) (f : FuncId) (hrn : a.rn = g.a.rn)
    (hf : ∀ s, Fnc Tryz.prog f [.string s, pt c] (orcM o ++ [cT c tn, tB tn a d root]) (RetO o (sf o.ts s).1 (fun o' => orcM o' ++ [cT c tn, tB tn a d root]) (.tuple #[.agg (dgV (sf o.ts s).2).toArray, .int .i64 (sizeE s)]))) :
    Fnc Tryz.prog 172 [pt tn, .int .i64 at_, .func (.func f) #[] #[pt c], .agg (dgV want).toArray] (rgM g ++ (orcM o ++ [cT c tn, tB tn a d root]))
      (RetO o (readT sf g.r o.ts d at_ want).2.1 (fun o' => rgM ⟨g.a, (readT sf g.r o.ts d at_ want).1⟩ ++ (orcM o' ++ [cT c tn, tB tn a d root])) (.tuple #[.string (readT sf g.r o.ts d at_ want).2.2.1, .int .i64 (readT sf g.r o.ts d at_ want).2.2.2])) := by
  obtain ⟨rn, on, sn, mn, kn⟩ := a
  simp only at hrn
  subst hrn
  have hr := Rig.read_ g d at_
  by_cases he : (readR g.r d at_).2.2 = 0
  · rw [he] at hr
    by_cases hd : dl (sf o.ts (readR g.r d at_).2.1).2 = dl want
    · have e : readT sf g.r o.ts d at_ want = ((readR g.r d at_).1, (sf o.ts (readR g.r d at_).2.1).1, (readR g.r d at_).2.1, 0) := by unfold readT; rw [if_neg (by simp [he]), if_pos hd]
      have hd2 := dgV_inj.2 hd
      rw [e]
      refine fn_intro Tryz.func172 (by kernel_rfl) ?_
      repeat' ((conv => whnf); first
          | refine force_of ?_
          | refine nw_dg (fun n => ?_)
          | refine nw_z (fun n => ?_)
          | refine draw_any 1 [(0, true), (1, true), (2, true), (4, true), (5, true), (6, true), (8, true), (3, true), (7, false), (9, false), (10, true), (11, true), (12, true), (13, true), (14, true)] [⟨tn, _⟩] rfl (by kernel_rfl) (kept1 (n := tn) ?_)
          | refine kept1 (n := tn) ?_
          | refine fld1_row treC_0 ?_
          | refine ld1_row treC_2 ?_
          | (refine call_gr hr (.one takeG) ?_)
          | (refine call_go (hf _) (.grp takeG (.blk takeC (.blk takeC .nil))) (fun o' h1 h2 => ?_))
          | refine need (dgV_len _) ?_
          | refine st_dg ?_
          | refine ldN_dg rfl ?_
          | (refine agg_neq kDg (by decide) rfl rfl rfl rfl (by kernel_rfl) (fDg _) (fDg _) ?_; refine ift hd2 ?_)
          | refine ld1_lit ?_
          | refine ldN_lit ?_
          | refine nw (fun n => ?_)
          | refine bld ?_
          | refine st_lit rfl ?_
          | refine need (by first | rfl | omega) ?_
          | (refine wr (fun z hz => ?_); (try rw [Int.tdiv_eq_ediv_of_nonneg (by omega)] at hz); rw [w64 (by omega) (by omega)] at hz; subst hz)
          | (refine zv (fun z hz => ?_); (try rw [Int.tmod_eq_emod_of_nonneg (by omega)] at hz); subst hz)
          | (refine ifs (fun h => ?_) (fun h => ?_) <;> (try (exfalso; first | omega | with_reducible contradiction | with_reducible exact h rfl))))
      all_goals (conv => whnf)
      all_goals exact fin_g (A := rgM ⟨g.a, _⟩ ++ (orcM o' ++ [⟨c, _⟩, ⟨tn, _⟩])) (.grp takeG (.grp takeG (.blk takeC (.blk takeC .nil)))) ⟨o', h1, h2, rfl, rfl⟩
    · have e : readT sf g.r o.ts d at_ want = ((readR g.r d at_).1, (sf o.ts (readR g.r d at_).2.1).1, ByteArray.empty, 12) := by unfold readT; rw [if_neg (by simp [he]), if_neg hd]
      have hd2 : ¬ dgV (sf o.ts (readR g.r d at_).2.1).2 = dgV want := fun h => hd (dgV_inj.1 h)
      rw [e]
      refine fn_intro Tryz.func172 (by kernel_rfl) ?_
      repeat' ((conv => whnf); first
          | refine force_of ?_
          | refine nw_dg (fun n => ?_)
          | refine nw_z (fun n => ?_)
          | refine draw_any 1 [(0, true), (1, true), (2, true), (4, true), (5, true), (6, true), (8, true), (3, true), (7, false), (9, false), (10, true), (11, true), (12, true), (13, true), (14, true)] [⟨tn, _⟩] rfl (by kernel_rfl) (kept1 (n := tn) ?_)
          | refine kept1 (n := tn) ?_
          | refine fld1_row treC_0 ?_
          | refine ld1_row treC_2 ?_
          | (refine call_gr hr (.one takeG) ?_)
          | (refine call_go (hf _) (.grp takeG (.blk takeC (.blk takeC .nil))) (fun o' h1 h2 => ?_))
          | refine need (dgV_len _) ?_
          | refine st_dg ?_
          | refine ldN_dg rfl ?_
          | (refine agg_neq kDg (by decide) rfl rfl rfl rfl (by kernel_rfl) (fDg _) (fDg _) ?_; refine iff' hd2 ?_)
          | refine ld1_lit ?_
          | refine ldN_lit ?_
          | refine nw (fun n => ?_)
          | refine bld ?_
          | refine st_lit rfl ?_
          | refine need (by first | rfl | omega) ?_
          | (refine wr (fun z hz => ?_); (try rw [Int.tdiv_eq_ediv_of_nonneg (by omega)] at hz); rw [w64 (by omega) (by omega)] at hz; subst hz)
          | (refine zv (fun z hz => ?_); (try rw [Int.tmod_eq_emod_of_nonneg (by omega)] at hz); subst hz)
          | (refine ifs (fun h => ?_) (fun h => ?_) <;> (try (exfalso; first | omega | with_reducible contradiction | with_reducible exact h rfl))))
      all_goals (conv => whnf)
      all_goals exact fin_g (A := rgM ⟨g.a, _⟩ ++ (orcM o' ++ [⟨c, _⟩, ⟨tn, _⟩])) (.grp takeG (.grp takeG (.blk takeC (.blk takeC .nil)))) ⟨o', h1, h2, rfl, rfl⟩
  · have e : readT sf g.r o.ts d at_ want = ((readR g.r d at_).1, o.ts, ByteArray.empty, (readR g.r d at_).2.2) := by unfold readT; rw [if_pos he]
    rw [e]
    generalize (readR g.r d at_).2.2 = ec at *
    generalize (readR g.r d at_).2.1 = sc at *
    refine fn_intro Tryz.func172 (by kernel_rfl) ?_
    repeat' ((conv => whnf); first
        | refine force_of ?_
        | refine nw_dg (fun n => ?_)
        | refine nw_z (fun n => ?_)
        | refine draw_any 1 [(0, true), (1, true), (2, true), (4, true), (5, true), (6, true), (8, true), (3, true), (7, false), (9, false), (10, true), (11, true), (12, true), (13, true), (14, true)] [⟨tn, _⟩] rfl (by kernel_rfl) (kept1 (n := tn) ?_)
        | refine kept1 (n := tn) ?_
        | refine fld1_row treC_0 ?_
        | refine ld1_row treC_2 ?_
        | (refine call_gr hr (.one takeG) ?_)
        | (refine call_go (hf _) (.grp takeG (.blk takeC (.blk takeC .nil))) (fun o' h1 h2 => ?_))
        | refine need (dgV_len _) ?_
        | refine st_dg ?_
        | refine ldN_dg rfl ?_
        | refine ld1_lit ?_
        | refine ldN_lit ?_
        | refine nw (fun n => ?_)
        | refine bld ?_
        | refine st_lit rfl ?_
        | refine need (by first | rfl | omega) ?_
        | (refine wr (fun z hz => ?_); (try rw [Int.tdiv_eq_ediv_of_nonneg (by omega)] at hz); rw [w64 (by omega) (by omega)] at hz; subst hz)
        | (refine zv (fun z hz => ?_); (try rw [Int.tmod_eq_emod_of_nonneg (by omega)] at hz); subst hz)
        | (refine ifs (fun h => ?_) (fun h => ?_) <;> (try (exfalso; first | omega | with_reducible contradiction | with_reducible exact h rfl))))
    all_goals (conv => whnf)
    all_goals exact fin_g (A := rgM ⟨g.a, _⟩ ++ (orcM o ++ [⟨c, _⟩, ⟨tn, _⟩])) (.grp takeG (.grp takeG (.blk takeC (.blk takeC .nil)))) ⟨o, rfl, rfl, rfl, rfl⟩
end Go.Proofs.YtohefdmfnllehaaGreat.Tree
/- Trees: a node. -/
namespace Go.Proofs.YtohefdmfnllehaaGreat.Tree
open Go Ev Sha Aes Orc Node
open Rig (RigP Rg rgM readR writeR z64 app_of)
set_option linter.unusedVariables false
set_option linter.unusedSimpArgs false
set_option maxRecDepth 100000
theorem nodeAt_ok {n : Nat} (h : n < 63) : Fnc Tryz.prog 227 [.int .i64 n] [] (Ret (.tuple #[.int .i64 ((161 + n : Nat) : Int), .int .i64 0]) []) := by
  have := Geom.nodeAt n
  rw [if_pos ⟨by omega, by omega⟩] at this
  rw [show ((161 + n : Nat) : Int) = 161 + (n : Int) by omega]
  exact this
theorem leafAt_ok {n : Nat} (h : n < 64) : Fnc Tryz.prog 170 [.int .i64 n] [] (Ret (.tuple #[.int .i64 ((224 + n : Nat) : Int), .int .i64 0]) []) := by
  have := Geom.leafAt n
  rw [if_pos ⟨by omega, by omega⟩] at this
  rw [show ((224 + n : Nat) : Int) = 224 + (n : Int) by omega]
  exact this
theorem leafAt_no {n : Int} (h : ¬ (0 ≤ n ∧ n < 64)) : Fnc Tryz.prog 170 [.int .i64 n] [] (Ret (.tuple #[.int .i64 0, .int .i64 3]) []) := by
  have := Geom.leafAt n
  rwa [if_neg h] at this
structure NodeR where
  r : RigP
  ts : List ByteArray
  t : TreP
  s : ByteArray
  e : Int
/-- A node's block. -/
noncomputable def nodeT (r : RigP) (ts : List ByteArray) (t : TreP) (n : Nat) (want : Dg) : NodeR :=
  match getS t.known n with
  | some s => ⟨r, ts, t, s, 0⟩
  | none =>
    if (readT nodeD r ts t.d (161 + n : Nat) want).2.2.2 = 0 then
      ⟨(readT nodeD r ts t.d (161 + n : Nat) want).1, (readT nodeD r ts t.d (161 + n : Nat) want).2.1, { t with known := setS t.known n (readT nodeD r ts t.d (161 + n : Nat) want).2.2.1 }, (readT nodeD r ts t.d (161 + n : Nat) want).2.2.1, 0⟩
    else ⟨(readT nodeD r ts t.d (161 + n : Nat) want).1, (readT nodeD r ts t.d (161 + n : Nat) want).2.1, t, (readT nodeD r ts t.d (161 + n : Nat) want).2.2.1, (readT nodeD r ts t.d (161 + n : Nat) want).2.2.2⟩
attribute [local irreducible] dgV D vS mapK Instr.lookup Instr.mapUpdate Instr.makeMap Builtin.len_ treC readR readT
set_option maxHeartbeats 2000000 in
theorem tnode (g : Rg) (o : Orc) (tn : Nat) (a : TreA) (t : TreP) (n : Nat) (want : Dg) (hn : n < 63) (hrn : a.rn = g.a.rn) (hon : a.on = o.on) (hb : o.ts.length ≤ 1099511627000) :
    Fnc Tryz.prog 221 [pt tn, .int .i64 n, .agg (dgV want).toArray] (rgM g ++ (orcM o ++ treM tn ⟨a, t⟩))
      (RetO o (nodeT g.r o.ts t n want).ts (fun o' => rgM ⟨g.a, (nodeT g.r o.ts t n want).r⟩ ++ (orcM o' ++ treM tn ⟨a, (nodeT g.r o.ts t n want).t⟩)) (.tuple #[.string (nodeT g.r o.ts t n want).s, .int .i64 (nodeT g.r o.ts t n want).e])) := by
  have hna := nodeAt_ok hn
  have hg := getM_vS n t.known
  unfold treM
  cases hk : getS t.known n with
  | some s =>
    have e : nodeT g.r o.ts t n want = ⟨g.r, o.ts, t, s, 0⟩ := by unfold nodeT; rw [hk]
    rw [hk] at hg
    rw [e]
    refine fn_intro Tryz.func221 (by kernel_rfl) ?_
    repeat' ((conv => whnf); first
        | refine force_of ?_
        | refine nw_dg (fun n => ?_)
        | refine ld1_row treC_k ?_
        | (refine map_look (keyI rfl) rfl rfl rfl ?_; rw [hg])
        | refine ld1_lit ?_
        | refine ldN_lit ?_
        | refine nw (fun n => ?_)
        | refine bld ?_
        | refine st_lit rfl ?_
        | refine need (by first | rfl | omega) ?_
        | (refine wr (fun z hz => ?_); (try rw [Int.tdiv_eq_ediv_of_nonneg (by omega)] at hz); rw [w64 (by omega) (by omega)] at hz; subst hz)
        | (refine zv (fun z hz => ?_); (try rw [Int.tmod_eq_emod_of_nonneg (by omega)] at hz); subst hz)
        | (refine ifs (fun h => ?_) (fun h => ?_) <;> (try (exfalso; first | omega | with_reducible contradiction | with_reducible exact h rfl))))
    all_goals (conv => whnf)
    all_goals exact fin_g (A := rgM g ++ (orcM o ++ [⟨tn, _⟩, ⟨a.sn, _⟩, ⟨a.mn, _⟩, ⟨a.kn, _⟩])) (.grp takeG (.grp takeG (.blk takeC (.blk takeC (.blk takeC (.blk takeC .nil)))))) ⟨o, rfl, rfl, rfl, rfl⟩
  | none =>
    rw [hk] at hg
    have hr : ∀ c, Fnc Tryz.prog 172 _ _ _ := fun c => tread nodeD g o a t.d t.root tn c (161 + n : Nat) want 250 hrn (fun s => cl_node o a t.d t.root tn c s hon hb)
    by_cases he : (readT nodeD g.r o.ts t.d (161 + n : Nat) want).2.2.2 = 0
    · have e : nodeT g.r o.ts t n want = ⟨(readT nodeD g.r o.ts t.d (161 + n : Nat) want).1, (readT nodeD g.r o.ts t.d (161 + n : Nat) want).2.1, { t with known := setS t.known n (readT nodeD g.r o.ts t.d (161 + n : Nat) want).2.2.1 }, (readT nodeD g.r o.ts t.d (161 + n : Nat) want).2.2.1, 0⟩ := by
        unfold nodeT; rw [hk]; simp only; rw [if_pos he]
      rw [e]
      rw [he] at hr
      refine fn_intro Tryz.func221 (by kernel_rfl) ?_
      repeat' ((conv => whnf); first
          | refine force_of ?_
          | refine nw_dg (fun n => ?_)
          | refine ldN_dg rfl ?_
          | refine ld1_row treC_k ?_
          | (refine map_look (keyI rfl) rfl rfl rfl ?_; rw [hg])
          | refine call_val hna ?_
          | (refine call_go (hr _) (.grp takeG (.grp takeG (.blk takeC (.blk takeC .nil)))) (fun o' h1 h2 => ?_))
          | (refine map_put (keyI rfl) rfl ?_; rw [setM_vS])
          | refine ld1_lit ?_
          | refine ldN_lit ?_
          | refine nw (fun n => ?_)
          | refine bld ?_
          | refine st_lit rfl ?_
          | refine need (by first | rfl | omega) ?_
          | (refine wr (fun z hz => ?_); (try rw [Int.tdiv_eq_ediv_of_nonneg (by omega)] at hz); rw [w64 (by omega) (by omega)] at hz; subst hz)
          | (refine zv (fun z hz => ?_); (try rw [Int.tmod_eq_emod_of_nonneg (by omega)] at hz); subst hz)
          | (refine ifs (fun h => ?_) (fun h => ?_) <;> (try (exfalso; first | omega | with_reducible contradiction | with_reducible exact h rfl))))
      all_goals (conv => whnf)
      all_goals exact fin_g (A := rgM ⟨g.a, _⟩ ++ (orcM o' ++ [⟨tn, _⟩, ⟨a.sn, _⟩, ⟨a.mn, _⟩, ⟨a.kn, _⟩])) (.grp takeG (.grp takeG (.blk takeC (.blk takeC (.blk takeC (.blk takeC .nil)))))) ⟨o', h1, h2, rfl, rfl⟩
    · have e : nodeT g.r o.ts t n want = ⟨(readT nodeD g.r o.ts t.d (161 + n : Nat) want).1, (readT nodeD g.r o.ts t.d (161 + n : Nat) want).2.1, t, (readT nodeD g.r o.ts t.d (161 + n : Nat) want).2.2.1, (readT nodeD g.r o.ts t.d (161 + n : Nat) want).2.2.2⟩ := by
        unfold nodeT; rw [hk]; simp only; rw [if_neg he]
      rw [e]
      refine fn_intro Tryz.func221 (by kernel_rfl) ?_
      repeat' ((conv => whnf); first
          | refine force_of ?_
          | refine nw_dg (fun n => ?_)
          | refine ldN_dg rfl ?_
          | refine ld1_row treC_k ?_
          | (refine map_look (keyI rfl) rfl rfl rfl ?_; rw [hg])
          | refine call_val hna ?_
          | (refine call_go (hr _) (.grp takeG (.grp takeG (.blk takeC (.blk takeC .nil)))) (fun o' h1 h2 => ?_))
          | refine iff' he ?_
          | refine ld1_lit ?_
          | refine ldN_lit ?_
          | refine nw (fun n => ?_)
          | refine bld ?_
          | refine st_lit rfl ?_
          | refine need (by first | rfl | omega) ?_
          | (refine wr (fun z hz => ?_); (try rw [Int.tdiv_eq_ediv_of_nonneg (by omega)] at hz); rw [w64 (by omega) (by omega)] at hz; subst hz)
          | (refine zv (fun z hz => ?_); (try rw [Int.tmod_eq_emod_of_nonneg (by omega)] at hz); subst hz)
          | (refine ifs (fun h => ?_) (fun h => ?_) <;> (try (exfalso; first | omega | with_reducible contradiction | with_reducible exact h rfl))))
      all_goals (conv => whnf)
      all_goals exact fin_g (A := rgM ⟨g.a, _⟩ ++ (orcM o' ++ [⟨tn, _⟩, ⟨a.sn, _⟩, ⟨a.mn, _⟩, ⟨a.kn, _⟩])) (.grp takeG (.grp takeG (.blk takeC (.blk takeC (.blk takeC (.blk takeC .nil)))))) ⟨o', h1, h2, rfl, rfl⟩
end Go.Proofs.YtohefdmfnllehaaGreat.Tree
/- Trees: down to a leaf. -/
namespace Go.Proofs.YtohefdmfnllehaaGreat.Tree
open Go Ev Sha Aes Orc Node
open Rig (RigP Rg rgM readR writeR z64 app_of)
set_option linter.unusedVariables false
set_option linter.unusedSimpArgs false
set_option maxRecDepth 100000
theorem scope_rule {P : Program} {c : Code} {fr : List Value} {M : List Blk} {K : Ks} (h : cw P c fr M (fun e fr' M' => match e with | .goto _ => False | e => K e fr' M')) : CodeW P (.scope c) fr M K := by
  refine ⟨fun A w0 w ds st => wp_scope_straight (wp_mono (cw_sound c fr M _ h A w0 w ds st) fun e a' w' hq => ?_)⟩
  obtain ⟨fr', M', rfl, st', hk⟩ := hq
  cases e with
  | goto l => exact hk.elim
  | _ => exact ⟨fr', M', rfl, st', hk⟩
/-- On the way down: what was read, the sum that the next node must have, the error. -/
structure DnP where
  r : RigP
  ts : List ByteArray
  t : TreP
  sum : Dg
  l : Nat → ByteArray
  e : Int
def updB (f : Nat → ByteArray) (i : Nat) (s : ByteArray) : Nat → ByteArray := fun j => if j = i then s else f j
noncomputable def dnS (leaf i : Nat) (p : DnP) : DnP :=
  ⟨(nodeT p.r p.ts p.t (at_ leaf (i + 1)) p.sum).r, (nodeT p.r p.ts p.t (at_ leaf (i + 1)) p.sum).ts, (nodeT p.r p.ts p.t (at_ leaf (i + 1)) p.sum).t,
    if (nodeT p.r p.ts p.t (at_ leaf (i + 1)) p.sum).e = 0 then splitD (nodeT p.r p.ts p.t (at_ leaf (i + 1)) p.sum).s (side leaf i) else p.sum,
    updB p.l i (nodeT p.r p.ts p.t (at_ leaf (i + 1)) p.sum).s, (nodeT p.r p.ts p.t (at_ leaf (i + 1)) p.sum).e⟩
noncomputable def dn (leaf : Nat) (p : DnP) : Nat → DnP
  | 0 => p
  | k + 1 => if (dn leaf p k).e ≠ 0 then dn leaf p k else dnS leaf (5 - k) (dn leaf p k)
noncomputable def dn0 (r : RigP) (ts : List ByteArray) (t : TreP) : DnP := ⟨r, ts, t, t.root, fun _ => ByteArray.empty, 0⟩
noncomputable def downT (r : RigP) (ts : List ByteArray) (t : TreP) (leaf : Nat) : DnP := dn leaf (dn0 r ts t) 6
theorem dn_0 (leaf : Nat) (p : DnP) : dn leaf p 0 = p := rfl
theorem dn_s {leaf : Nat} {p : DnP} {k : Nat} (h : (dn leaf p k).e = 0) : dn leaf p (k + 1) = dnS leaf (5 - k) (dn leaf p k) := by
  show (if (dn leaf p k).e ≠ 0 then _ else _) = _
  rw [if_neg (by simp [h])]
theorem dn_stop {leaf : Nat} {p : DnP} {k : Nat} (h : (dn leaf p k).e ≠ 0) : ∀ j, dn leaf p (k + j) = dn leaf p k
  | 0 => rfl
  | j + 1 => by
    have ih := dn_stop h j
    show (if (dn leaf p (k + j)).e ≠ 0 then dn leaf p (k + j) else dnS leaf (5 - (k + j)) (dn leaf p (k + j))) = _
    rw [ih, if_pos h]
theorem nodeD_len (ts : List ByteArray) (s : ByteArray) : (nodeD ts s).1.length ≤ ts.length + 1 := by
  unfold nodeD; split
  · exact addT_len _ _
  · simp
theorem leafD_len (ts : List ByteArray) (s : ByteArray) : (leafD ts s).1.length ≤ ts.length + 1 := by
  unfold leafD; split
  · exact addT_len _ _
  · simp
theorem readT_len {sf : List ByteArray → ByteArray → List ByteArray × Dg} (hsf : ∀ ts s, (sf ts s).1.length ≤ ts.length + 1) (r : RigP) (ts : List ByteArray) (d a : Int) (want : Dg) : (readT sf r ts d a want).2.1.length ≤ ts.length + 1 := by
  unfold readT
  split
  · simp
  · split <;> exact hsf _ _
theorem nodeT_len (r : RigP) (ts : List ByteArray) (t : TreP) (n : Nat) (want : Dg) : (nodeT r ts t n want).ts.length ≤ ts.length + 1 := by
  unfold nodeT
  split
  · simp
  · split <;> exact readT_len nodeD_len _ _ _ _ _
theorem dn_len (leaf : Nat) (p : DnP) : ∀ k, (dn leaf p k).ts.length ≤ p.ts.length + k
  | 0 => Nat.le_refl _
  | k + 1 => by
    have ih := dn_len leaf p k
    show (if (dn leaf p k).e ≠ 0 then dn leaf p k else dnS leaf (5 - k) (dn leaf p k)).ts.length ≤ _
    split
    · omega
    · have := nodeT_len (dn leaf p k).r (dn leaf p k).ts (dn leaf p k).t (at_ leaf (5 - k + 1)) (dn leaf p k).sum
      show (nodeT (dn leaf p k).r (dn leaf p k).ts (dn leaf p k).t (at_ leaf (5 - k + 1)) (dn leaf p k).sum).ts.length ≤ _
      omega
/-! What lies in memory. -/
def rowL (f : Nat → ByteArray) : List Value := (List.range 6).map fun i => .string (f i)
theorem rowL_len (f : Nat → ByteArray) : (rowL f).length = 6 := by unfold rowL; simp
theorem rowL_z : rowL (fun _ => ByteArray.empty) = List.replicate 6 (Value.string ByteArray.empty) := by unfold rowL; rfl
theorem rowL_at {f : Nat → ByteArray} {k : Nat} (h : k < 6) : (rowL f)[k]? = some (.string (f k)) := by unfold rowL; rw [List.getElem?_map, List.getElem?_range h]; rfl
theorem rowL_set {f : Nat → ByteArray} {k : Nat} {s : ByteArray} (h : k < 6) : (rowL f).set k (.string s) = rowL (updB f k s) := by
  apply List.ext_getElem?
  intro j
  rw [List.getElem?_set, rowL_len]
  by_cases hj : j < 6
  · rw [rowL_at hj, rowL_at hj]
    unfold updB
    by_cases e : k = j
    · rw [if_pos e, if_pos h, if_pos e.symm]
    · rw [if_neg e, if_neg (Ne.symm e)]
  · rw [if_neg (by omega), List.getElem?_eq_none (by rw [rowL_len]; omega), List.getElem?_eq_none (by rw [rowL_len]; omega)]
def wyC (v : Value) (sum : Dg) : List Value := v :: (dgV sum ++ [])
theorem wyC_len (v : Value) (sum : Dg) : (wyC v sum).length = 33 := by unfold wyC; simp [dgV_len]
theorem wyC_z : wyC (.slice none 0 0) zD = .slice none 0 0 :: List.replicate 32 (Value.int .u8 0) := by unfold wyC; rw [dgV_z]; rfl
theorem wyC_0 {v : Value} {sum : Dg} : (wyC v sum)[0 + 0]? = some v := rfl
theorem wyC_r (v : Value) (sum : Dg) : ((wyC v sum).drop (0 + 1)).take (dgV sum).length = dgV sum := by
  show (dgV sum ++ []).take (dgV sum).length = dgV sum
  rw [List.append_nil, List.take_length]
theorem wyC_one {v : Value} (hv : v.oneCell' = true) (sum : Dg) : ∀ u ∈ wyC v sum, u.oneCell' = true := by
  intro u hu
  unfold wyC at hu
  rw [List.append_nil] at hu
  rcases List.mem_cons.1 hu with rfl | hu
  · exact hv
  · exact dgV_one _ u hu
theorem fldN_root {RO : List Blk} {n : Nat} {T : TypeId} {rn on sn kn : Nat} {d : Int} {root : Dg} {K : List Value → Prop} [h : Look RO n (.row (treC rn on d root sn kn) T)] (hk : K (dgV root)) : FLdN RO n (0 + 3) 32 K :=
  ⟨⟨dgV root, dgV_len _, fun w hw => row_at (hw.1 _ h.mem) (treC_r _ _ _ _ _ _), hk⟩⟩
section
variable {P : Program} {M : List Blk} {n : Nat} {T : TypeId} {f : Blk → List Blk}
theorem ldN_wsum {v : Value} {sum : Dg} {K : List Value → Prop} [h : Look M n (.row (wyC v sum) T)] (hk : K (dgV sum)) : LdN M n (0 + 1) 32 K := ldN_row (dgV sum) (wyC_r _ _) (dgV_len _) hk
theorem st_wsum {v : Value} {sum b : Dg} {K : List Blk → Prop} [z : Zip M n (.row (wyC v sum) T) f] (hk : K (f ⟨n, .row (wyC v b) T⟩)) : StN P M n (0 + 1) (dgV b) K :=
  st_rowN (dgV_one b) (by rw [wyC_len, dgV_len]; omega) (by
    have : (wyC v sum).take (0 + 1) ++ dgV b ++ (wyC v sum).drop (0 + 1 + (dgV b).length) = wyC v b := by
      rw [dgV_len]
      show ([v] ++ dgV b) ++ ((dgV sum ++ []).drop 32) = _
      rw [List.drop_left' (dgV_len sum)]; rfl
    rw [this]; exact hk)
theorem st_way {v v' : Value} {sum b : Dg} {K : List Blk → Prop} (hv : v'.oneCell' = true) [z : Zip M n (.row (wyC v sum) T) f] (hk : K (f ⟨n, .row (wyC v' b) T⟩)) : StN P M n 0 (wyC v' b) K :=
  st_whole (wyC_one hv b) (by rw [wyC_len, wyC_len]) hk
theorem ldN_way {v : Value} {sum : Dg} {K : List Value → Prop} [h : Look M n (.row (wyC v sum) T)] (hk : K (wyC v sum)) : LdN M n 0 33 K := ldN_whole (wyC_len _ _) hk
theorem st_L {l : Nat → ByteArray} {i : Nat} {s : ByteArray} {K : List Blk → Prop} [z : Zip M n (.row (rowL l) T) f] (hi : i < 6) (hk : K (f ⟨n, .row (rowL (updB l i s)) T⟩)) : StN P M n i [.string s] K :=
  st_row rfl (by rw [rowL_len]; exact hi) (by rw [rowL_set hi]; exact hk)
end
theorem st_wz {P : Program} {M : List Blk} {n : Nat} {T : TypeId} {f : Blk → List Blk} {v : Value} {sum : Dg} {K : List Blk → Prop} [z : Zip M n (.row (wyC v sum) T) f] (hk : K (f ⟨n, .row (wyC (.slice none 0 0) zD) T⟩)) : StN P M n 0 (.slice none 0 0 :: List.replicate 32 (Value.int .u8 0)) K := by
  rw [← wyC_z]; exact st_way rfl hk
theorem wy_e (v : Value) (sum : Dg) : ([v] ++ dgV sum) ++ [] = wyC v sum := rfl
instance (priority := 3000) lookTre {n : Nat} {x : Tre} : Look (treM n x) n (.row (treC x.a.rn x.a.on x.t.d x.t.root x.a.sn x.a.kn) 248) := ⟨List.mem_cons_self⟩
instance (priority := 3000) lookTreS {n : Nat} {x : Tre} {S : List Blk} : Look (treM n x ++ S) n (.row (treC x.a.rn x.a.on x.t.d x.t.root x.a.sn x.a.kn) 248) := ⟨List.mem_append.2 (.inl List.mem_cons_self)⟩
theorem kept_wg {M R : List Blk} {wn gp : Nat} {o1 o2 : BO} {k : Prop} [h1 : TakeC M wn o1 R] [h2 : Look R gp o2] (h : k) : Kept [⟨wn, o1⟩, ⟨gp, o2⟩] M k := kept2 (n' := gp) h1.out h
abbrev wB (n : Nat) (v : Value) (sum : Dg) : Blk := ⟨n, .row (wyC v sum) 242⟩
abbrev lB (n : Nat) (l : Nat → ByteArray) : Blk := ⟨n, .row (rowL l) 9⟩
abbrev sl6 (n : Nat) : Value := .slice (some ⟨n, 0, none⟩) 6 6
attribute [local irreducible] dgV D vS mapK Instr.lookup Instr.mapUpdate Instr.makeMap Builtin.len_ treC readR readT nodeT wyC rowL pathV at_ Instr.makeSlice
set_option maxHeartbeats 4000000 in
theorem tdown (g : Rg) (o : Orc) (tn : Nat) (a : TreA) (t : TreP) (leaf : Nat) (hl : leaf < 64) (hrn : a.rn = g.a.rn) (hon : a.on = o.on) (hb : o.ts.length ≤ 1099511620000) :
    Fnc Tryz.prog 169 [pt tn, .int .i64 leaf] (rgM g ++ (orcM o ++ treM tn ⟨a, t⟩))
      (fun e A => ∃ o' : Orc, o'.on = o.on ∧ o'.ts = (downT g.r o.ts t leaf).ts ∧ ∃ ln,
        A = lB ln (downT g.r o.ts t leaf).l :: (rgM ⟨g.a, (downT g.r o.ts t leaf).r⟩ ++ (orcM o' ++ treM tn ⟨a, (downT g.r o.ts t leaf).t⟩)) ∧
        e = .returned (.tuple #[.agg (if (downT g.r o.ts t leaf).e = 0 then wyC (sl6 ln) (downT g.r o.ts t leaf).sum else wyC (.slice none 0 0) zD).toArray, .int .i64 (downT g.r o.ts t leaf).e])) := by
  have hz := wyC_z
  have hpath := path_ leaf hl
  refine fn_intro Tryz.func169 (by kernel_rfl) ?_
  repeat' ((conv => whnf); first
      | refine nw_row hz (fun n => ?_)
      | (refine call_g hpath .nil (fun e A' hq => ?_); obtain ⟨S, hS, h1, h2⟩ := hq; subst h1; subst h2)
      | refine ld1_lit ?_
      | refine ldN_lit ?_
      | refine nw (fun n => ?_)
      | refine bld ?_
      | refine st_lit rfl ?_
      | refine need (by first | rfl | omega) ?_
      | (refine wr (fun z hz => ?_); (try rw [Int.tdiv_eq_ediv_of_nonneg (by omega)] at hz); rw [w64 (by omega) (by omega)] at hz; subst hz)
      | (refine zv (fun z hz => ?_); (try rw [Int.tmod_eq_emod_of_nonneg (by omega)] at hz); subst hz)
      | (refine ifs (fun h => ?_) (fun h => ?_) <;> (try (exfalso; first | omega | with_reducible contradiction | with_reducible exact h rfl))))
  revert n; intro rn4
  refine scope_rule ?_
  repeat' ((conv => whnf); first
      | (refine call_g hpath .nil (fun e A' hq => ?_); obtain ⟨S, hS, h1, h2⟩ := hq; subst h1; subst h2)
      | refine ld1_lit ?_
      | refine ldN_lit ?_
      | refine nw (fun n => ?_)
      | refine bld ?_
      | refine st_lit rfl ?_
      | refine need (by first | rfl | omega) ?_
      | (refine wr (fun z hz => ?_); (try rw [Int.tdiv_eq_ediv_of_nonneg (by omega)] at hz); rw [w64 (by omega) (by omega)] at hz; subst hz)
      | (refine zv (fun z hz => ?_); (try rw [Int.tmod_eq_emod_of_nonneg (by omega)] at hz); subst hz)
      | (refine ifs (fun h => ?_) (fun h => ?_) <;> (try (exfalso; first | omega | with_reducible contradiction | with_reducible exact h rfl))))
  cases S with
  | nil => have := hS.2; simp only at this; omega
  | at_ gp cap junk =>
    have hjl : ∀ k, k < 6 → (pathV leaf 6 ++ junk)[k]? = some (.int .i64 (at_ leaf (k + 1) : Nat)) := fun k hk => by
      rw [List.getElem?_append_left (by rw [pathV_len]; exact hk), pathV_at hk]
    simp only [Own.blk]
    refine draw_tree 6 (.take 0 (.take 1 (.take 3 (.take 4 (.take 5 (.take 6 (.two 2 8 (.take 7 (.only 8 (.only 9 .nil))) (.only 2 (.take 7 (.only 9 .nil)))))))))) [⟨tn, _⟩] rfl (by kernel_rfl) (kept1 (n := tn) ?_)
    repeat' ((conv => whnf); first
        | refine And.intro ?_ ?_
        | refine kept1 (n := tn) ?_
        | refine fldN_root (n := tn) ?_
        | refine mk_row rfl rfl rfl rfl rfl (by decide) (by decide) (by decide) (fun n => ?_)
        | (refine bld_cons (vs := [_]) rfl rfl rfl (Nat.le_of_ble_eq_true rfl) rfl ?_; refine bld_cons (vs := dgV t.root) (cs1 := wyC (sl6 _) t.root) rfl rfl (dgV_len _) (Nat.le_of_ble_eq_true rfl) (wy_e _ _) ?_; refine bld_nil ?_)
        | refine nw_row hz (fun n => ?_)
        | refine force_of ?_
        | refine need (wyC_len _ _) ?_
        | refine st_way rfl ?_
        | refine ld1_lit ?_
        | refine ldN_lit ?_
        | refine nw (fun n => ?_)
        | refine bld ?_
        | refine st_lit rfl ?_
        | refine need (by first | rfl | omega) ?_
        | (refine wr (fun z hz => ?_); (try rw [Int.tdiv_eq_ediv_of_nonneg (by omega)] at hz); rw [w64 (by omega) (by omega)] at hz; subst hz)
        | (refine zv (fun z hz => ?_); (try rw [Int.tmod_eq_emod_of_nonneg (by omega)] at hz); subst hz)
        | (refine ifs (fun h => ?_) (fun h => ?_) <;> (try (exfalso; first | omega | with_reducible contradiction | with_reducible exact h rfl))))
    all_goals (conv => whnf)
    · revert n; intro wn
      revert n; intro ln
      obtain ⟨p0, hp0⟩ : ∃ p, p = dn0 g.r o.ts t := ⟨_, rfl⟩
      have hD : downT g.r o.ts t leaf = dn leaf p0 6 := by rw [hp0]; rfl
      rw [hD]
      refine loop_rule [10, 7] (fun vs M m => ∃ (k : Nat) (q : Orc), vs = [.int .i64 (5 - (k : Int)), .int .i64 0] ∧ k ≤ 6 ∧ (dn leaf p0 k).e = 0 ∧ q.on = o.on ∧ q.ts = (dn leaf p0 k).ts ∧ m = 6 - k ∧
        M = wB wn (sl6 ln) (dn leaf p0 k).sum :: lB ln (dn leaf p0 k).l :: ⟨gp, .row (pathV leaf 6 ++ junk) 3⟩ :: wB rn4 (.slice none 0 0) zD :: (rgM ⟨g.a, (dn leaf p0 k).r⟩ ++ (orcM q ++ treM tn ⟨a, (dn leaf p0 k).t⟩))) rfl ?_ ?_
      · exact fin_g (A := ⟨wn, _⟩ :: ⟨ln, _⟩ :: ⟨gp, _⟩ :: ⟨rn4, _⟩ :: (rgM g ++ (orcM o ++ treM tn ⟨a, t⟩))) (.blk takeC (.blk takeC (.blk takeC (.blk takeC (.grp takeG (.grp takeG (.one takeG))))))) ⟨_, 0, o, rfl, by omega, by rw [dn_0, hp0]; rfl, rfl, by rw [dn_0, hp0]; rfl, rfl, by rw [dn_0, hp0]; unfold dn0 lB; simp only; rw [rowL_z]; rfl⟩
      rintro vs junk2 M' m ⟨k, q, rfl, hk, he0, hq1, hq2, rfl, rfl⟩
      have hlen := dn_len leaf p0 k
      have hlen2 : p0.ts.length = o.ts.length := by rw [hp0]; rfl
      have hnext := dn_s he0
      have hstop : (dn leaf p0 (k + 1)).e ≠ 0 → k < 6 → dn leaf p0 6 = dn leaf p0 (k + 1) := fun h h6 => by
        have := dn_stop h (6 - (k + 1))
        rwa [show k + 1 + (6 - (k + 1)) = 6 by omega] at this
      obtain ⟨p, ep⟩ : ∃ p, p = dn leaf p0 k := ⟨_, rfl⟩
      rw [← ep] at he0 hq2 hlen hnext ⊢
      by_cases hk6 : k < 6
      · have hnode := tnode ⟨g.a, p.r⟩ q tn a p.t (at_ leaf (5 - k + 1)) p.sum (at_node hl (by omega)) hrn (hon.trans hq1.symm) (by rw [hq2]; omega)
        rw [hq2] at hnode
        have hside := side_ leaf (5 - k) hl (by omega)
        by_cases hx : (nodeT p.r p.ts p.t (at_ leaf (5 - k + 1)) p.sum).e = 0
        · obtain ⟨x, ex⟩ : ∃ x, x = nodeT p.r p.ts p.t (at_ leaf (5 - k + 1)) p.sum := ⟨_, rfl⟩
          have hdn : dn leaf p0 (k + 1) = ⟨x.r, x.ts, x.t, splitD x.s (side leaf (5 - k)), updB p.l (5 - k) x.s, 0⟩ := by
            rw [hnext]; unfold dnS; rw [← ex] at hx ⊢; rw [if_pos hx, hx]
          dsimp only at hnode
          rw [← ex] at hnode
          rw [← ex] at hx
          rw [hx] at hnode
          have hl2 : (rowL (updB p.l (5 - k) x.s))[5 - k]? = some (.string x.s) := by rw [rowL_at (by omega)]; unfold updB; rw [if_pos rfl]
          repeat' ((conv => whnf); first
              | refine draw_any 11 [(0, true), (2, true), (3, true), (4, true), (5, true), (6, true), (8, true), (1, true), (7, true), (9, false), (10, false), (11, true), (12, true), (13, true), (14, true), (15, false), (16, true)] [⟨wn, _⟩, ⟨gp, _⟩] rfl (by kernel_rfl) (kept_wg (wn := wn) (gp := gp) ?_)
              | refine kept_wg (wn := wn) (gp := gp) ?_
              | refine nv_eq (a := 5 - k) (by omega) ?_
              | refine fld1_row (n := wn) wyC_0 ?_
              | refine fld1_row (n := gp) (hjl (5 - k) (by omega)) ?_
              | refine ld1_row (n := gp) (hjl (5 - k) (by omega)) ?_
              | refine ld1_row (n := wn) wyC_0 ?_
              | refine ld1_row (n := ln) hl2 ?_
              | refine ldN_wsum (n := wn) ?_
              | (refine call_go hnode (.grp takeG (.grp takeG (.one takeG))) (fun o2 g1 g2 => ?_))
              | refine call_val hside ?_
              | refine call_val (split_ x.s (side leaf (5 - k)) (side_le _ _)) ?_
              | refine st_L (n := ln) (by omega) ?_
              | refine force_of ?_
              | refine need (dgV_len _) ?_
              | refine st_wsum (n := wn) ?_
              | refine ld1_lit ?_
              | refine ldN_lit ?_
              | refine nw (fun n => ?_)
              | refine bld ?_
              | refine st_lit rfl ?_
              | refine need (by first | rfl | omega) ?_
              | (refine wr (fun z hz => ?_); (try rw [Int.tdiv_eq_ediv_of_nonneg (by omega)] at hz); rw [w64 (by omega) (by omega)] at hz; subst hz)
              | (refine zv (fun z hz => ?_); (try rw [Int.tmod_eq_emod_of_nonneg (by omega)] at hz); subst hz)
              | (refine ifs (fun h => ?_) (fun h => ?_) <;> (try (exfalso; first | omega | with_reducible contradiction | with_reducible exact h rfl))))
          all_goals (conv => whnf)
          all_goals exact ⟨rfl, fin_g (A := ⟨wn, _⟩ :: ⟨ln, _⟩ :: ⟨gp, _⟩ :: ⟨rn4, _⟩ :: (rgM ⟨g.a, _⟩ ++ (orcM o2 ++ treM tn ⟨a, _⟩))) (.blk takeC (.blk takeC (.blk takeC (.blk takeC (.grp takeG (.grp takeG (.one takeG))))))) ⟨6 - (k + 1), by omega, k + 1, o2, by rw [show (5 - ((k + 1 : Nat) : Int)) = 5 - (k : Int) - 1 by omega], by omega, by rw [hdn], by rw [g1, hq1], by rw [g2, hdn], rfl, by rw [hdn]⟩⟩
        · obtain ⟨x, ex⟩ : ∃ x, x = nodeT p.r p.ts p.t (at_ leaf (5 - k + 1)) p.sum := ⟨_, rfl⟩
          have hdn : dn leaf p0 (k + 1) = ⟨x.r, x.ts, x.t, p.sum, updB p.l (5 - k) x.s, x.e⟩ := by
            rw [hnext]; unfold dnS; rw [← ex] at hx ⊢; rw [if_neg hx]
          dsimp only at hnode
          rw [← ex] at hnode
          rw [← ex] at hx
          rw [hstop (by rw [hdn]; exact hx) hk6, hdn]
          dsimp only
          obtain ⟨xe, exe⟩ : ∃ z, z = x.e := ⟨_, rfl⟩
          rw [← exe] at hnode hx ⊢
          repeat' ((conv => whnf); first
              | refine draw_any 11 [(0, true), (2, true), (3, true), (4, true), (5, true), (6, true), (8, true), (1, true), (7, true), (9, false), (10, false), (11, true), (12, true), (13, true), (14, true), (15, false), (16, true)] [⟨wn, _⟩, ⟨gp, _⟩] rfl (by kernel_rfl) (kept_wg (wn := wn) (gp := gp) ?_)
              | refine kept_wg (wn := wn) (gp := gp) ?_
              | refine nv_eq (a := 5 - k) (by omega) ?_
              | refine fld1_row (n := wn) wyC_0 ?_
              | refine fld1_row (n := gp) (hjl (5 - k) (by omega)) ?_
              | refine ld1_row (n := gp) (hjl (5 - k) (by omega)) ?_
              | refine ld1_row (n := wn) wyC_0 ?_
              | refine ld1_row (n := ln) hl2 ?_
              | refine ldN_wsum (n := wn) ?_
              | (refine call_go hnode (.grp takeG (.grp takeG (.one takeG))) (fun o2 g1 g2 => ?_))
              | refine call_val hside ?_
              | refine call_val (split_ x.s (side leaf (5 - k)) (side_le _ _)) ?_
              | refine st_L (n := ln) (by omega) ?_
              | refine force_of ?_
              | refine need (dgV_len _) ?_
              | refine st_wsum (n := wn) ?_
              | refine iff' hx ?_
              | refine bld_nil ?_
              | refine ldN_way ?_
              | refine st_wz (n := rn4) ?_
              | refine need (wyC_len _ _) ?_
              | refine ld1_lit ?_
              | refine ldN_lit ?_
              | refine nw (fun n => ?_)
              | refine bld ?_
              | refine st_lit rfl ?_
              | refine need (by first | rfl | omega) ?_
              | (refine wr (fun z hz => ?_); (try rw [Int.tdiv_eq_ediv_of_nonneg (by omega)] at hz); rw [w64 (by omega) (by omega)] at hz; subst hz)
              | (refine zv (fun z hz => ?_); (try rw [Int.tmod_eq_emod_of_nonneg (by omega)] at hz); subst hz)
              | (refine ifs (fun h => ?_) (fun h => ?_) <;> (try (exfalso; first | omega | with_reducible contradiction | with_reducible exact h rfl))))
          all_goals (conv => whnf)
          all_goals exact fin_g (A := ⟨ln, _⟩ :: (rgM ⟨g.a, _⟩ ++ (orcM o2 ++ treM tn ⟨a, _⟩))) (.blk takeC (.grp takeG (.grp takeG (.one takeG)))) ⟨o2, by rw [g1, hq1], g2, ln, rfl, by rw [if_neg hx]; rfl⟩
      · obtain rfl : k = 6 := by omega
        rw [← ep, he0]
        repeat' ((conv => whnf); first
            | refine force_of ?_
            | refine ldN_way (n := wn) ?_
            | refine ldN_way (n := rn4) ?_
            | refine st_way (n := rn4) rfl ?_
            | refine need (wyC_len _ _) ?_
            | refine ld1_lit ?_
            | refine ldN_lit ?_
            | refine nw (fun n => ?_)
            | refine bld ?_
            | refine st_lit rfl ?_
            | refine need (by first | rfl | omega) ?_
            | (refine wr (fun z hz => ?_); (try rw [Int.tdiv_eq_ediv_of_nonneg (by omega)] at hz); rw [w64 (by omega) (by omega)] at hz; subst hz)
            | (refine zv (fun z hz => ?_); (try rw [Int.tmod_eq_emod_of_nonneg (by omega)] at hz); subst hz)
            | (refine ifs (fun h => ?_) (fun h => ?_) <;> (try (exfalso; first | omega | with_reducible contradiction | with_reducible exact h rfl))))
        all_goals (conv => whnf)
        all_goals exact fin_g (A := ⟨ln, _⟩ :: (rgM ⟨g.a, _⟩ ++ (orcM q ++ treM tn ⟨a, _⟩))) (.blk takeC (.grp takeG (.grp takeG (.one takeG)))) ⟨q, hq1, hq2, ln, rfl, by rw [if_pos rfl]; rfl⟩
    · revert n; intro ln
      revert n; intro wn
      obtain ⟨p0, hp0⟩ : ∃ p, p = dn0 g.r o.ts t := ⟨_, rfl⟩
      have hD : downT g.r o.ts t leaf = dn leaf p0 6 := by rw [hp0]; rfl
      rw [hD]
      refine loop_rule [10, 7] (fun vs M m => ∃ (k : Nat) (q : Orc), vs = [.int .i64 (5 - (k : Int)), .int .i64 0] ∧ k ≤ 6 ∧ (dn leaf p0 k).e = 0 ∧ q.on = o.on ∧ q.ts = (dn leaf p0 k).ts ∧ m = 6 - k ∧
        M = wB wn (sl6 ln) (dn leaf p0 k).sum :: lB ln (dn leaf p0 k).l :: ⟨gp, .row (pathV leaf 6 ++ junk) 3⟩ :: wB rn4 (.slice none 0 0) zD :: (rgM ⟨g.a, (dn leaf p0 k).r⟩ ++ (orcM q ++ treM tn ⟨a, (dn leaf p0 k).t⟩))) rfl ?_ ?_
      · exact fin_g (A := ⟨wn, _⟩ :: ⟨ln, _⟩ :: ⟨gp, _⟩ :: ⟨rn4, _⟩ :: (rgM g ++ (orcM o ++ treM tn ⟨a, t⟩))) (.blk takeC (.blk takeC (.blk takeC (.blk takeC (.grp takeG (.grp takeG (.one takeG))))))) ⟨_, 0, o, rfl, by omega, by rw [dn_0, hp0]; rfl, rfl, by rw [dn_0, hp0]; rfl, rfl, by rw [dn_0, hp0]; unfold dn0 lB; simp only; rw [rowL_z]; rfl⟩
      rintro vs junk2 M' m ⟨k, q, rfl, hk, he0, hq1, hq2, rfl, rfl⟩
      have hlen := dn_len leaf p0 k
      have hlen2 : p0.ts.length = o.ts.length := by rw [hp0]; rfl
      have hnext := dn_s he0
      have hstop : (dn leaf p0 (k + 1)).e ≠ 0 → k < 6 → dn leaf p0 6 = dn leaf p0 (k + 1) := fun h h6 => by
        have := dn_stop h (6 - (k + 1))
        rwa [show k + 1 + (6 - (k + 1)) = 6 by omega] at this
      obtain ⟨p, ep⟩ : ∃ p, p = dn leaf p0 k := ⟨_, rfl⟩
      rw [← ep] at he0 hq2 hlen hnext ⊢
      by_cases hk6 : k < 6
      · have hnode := tnode ⟨g.a, p.r⟩ q tn a p.t (at_ leaf (5 - k + 1)) p.sum (at_node hl (by omega)) hrn (hon.trans hq1.symm) (by rw [hq2]; omega)
        rw [hq2] at hnode
        have hside := side_ leaf (5 - k) hl (by omega)
        by_cases hx : (nodeT p.r p.ts p.t (at_ leaf (5 - k + 1)) p.sum).e = 0
        · obtain ⟨x, ex⟩ : ∃ x, x = nodeT p.r p.ts p.t (at_ leaf (5 - k + 1)) p.sum := ⟨_, rfl⟩
          have hdn : dn leaf p0 (k + 1) = ⟨x.r, x.ts, x.t, splitD x.s (side leaf (5 - k)), updB p.l (5 - k) x.s, 0⟩ := by
            rw [hnext]; unfold dnS; rw [← ex] at hx ⊢; rw [if_pos hx, hx]
          dsimp only at hnode
          rw [← ex] at hnode
          rw [← ex] at hx
          rw [hx] at hnode
          have hl2 : (rowL (updB p.l (5 - k) x.s))[5 - k]? = some (.string x.s) := by rw [rowL_at (by omega)]; unfold updB; rw [if_pos rfl]
          repeat' ((conv => whnf); first
              | refine draw_any 11 [(0, true), (2, true), (3, true), (4, true), (5, true), (6, true), (8, true), (1, true), (7, true), (9, false), (10, false), (11, true), (12, true), (13, true), (14, true), (15, false), (16, true)] [⟨wn, _⟩, ⟨gp, _⟩] rfl (by kernel_rfl) (kept_wg (wn := wn) (gp := gp) ?_)
              | refine kept_wg (wn := wn) (gp := gp) ?_
              | refine nv_eq (a := 5 - k) (by omega) ?_
              | refine fld1_row (n := wn) wyC_0 ?_
              | refine fld1_row (n := gp) (hjl (5 - k) (by omega)) ?_
              | refine ld1_row (n := gp) (hjl (5 - k) (by omega)) ?_
              | refine ld1_row (n := wn) wyC_0 ?_
              | refine ld1_row (n := ln) hl2 ?_
              | refine ldN_wsum (n := wn) ?_
              | (refine call_go hnode (.grp takeG (.grp takeG (.one takeG))) (fun o2 g1 g2 => ?_))
              | refine call_val hside ?_
              | refine call_val (split_ x.s (side leaf (5 - k)) (side_le _ _)) ?_
              | refine st_L (n := ln) (by omega) ?_
              | refine force_of ?_
              | refine need (dgV_len _) ?_
              | refine st_wsum (n := wn) ?_
              | refine ld1_lit ?_
              | refine ldN_lit ?_
              | refine nw (fun n => ?_)
              | refine bld ?_
              | refine st_lit rfl ?_
              | refine need (by first | rfl | omega) ?_
              | (refine wr (fun z hz => ?_); (try rw [Int.tdiv_eq_ediv_of_nonneg (by omega)] at hz); rw [w64 (by omega) (by omega)] at hz; subst hz)
              | (refine zv (fun z hz => ?_); (try rw [Int.tmod_eq_emod_of_nonneg (by omega)] at hz); subst hz)
              | (refine ifs (fun h => ?_) (fun h => ?_) <;> (try (exfalso; first | omega | with_reducible contradiction | with_reducible exact h rfl))))
          all_goals (conv => whnf)
          all_goals exact ⟨rfl, fin_g (A := ⟨wn, _⟩ :: ⟨ln, _⟩ :: ⟨gp, _⟩ :: ⟨rn4, _⟩ :: (rgM ⟨g.a, _⟩ ++ (orcM o2 ++ treM tn ⟨a, _⟩))) (.blk takeC (.blk takeC (.blk takeC (.blk takeC (.grp takeG (.grp takeG (.one takeG))))))) ⟨6 - (k + 1), by omega, k + 1, o2, by rw [show (5 - ((k + 1 : Nat) : Int)) = 5 - (k : Int) - 1 by omega], by omega, by rw [hdn], by rw [g1, hq1], by rw [g2, hdn], rfl, by rw [hdn]⟩⟩
        · obtain ⟨x, ex⟩ : ∃ x, x = nodeT p.r p.ts p.t (at_ leaf (5 - k + 1)) p.sum := ⟨_, rfl⟩
          have hdn : dn leaf p0 (k + 1) = ⟨x.r, x.ts, x.t, p.sum, updB p.l (5 - k) x.s, x.e⟩ := by
            rw [hnext]; unfold dnS; rw [← ex] at hx ⊢; rw [if_neg hx]
          dsimp only at hnode
          rw [← ex] at hnode
          rw [← ex] at hx
          rw [hstop (by rw [hdn]; exact hx) hk6, hdn]
          dsimp only
          obtain ⟨xe, exe⟩ : ∃ z, z = x.e := ⟨_, rfl⟩
          rw [← exe] at hnode hx ⊢
          repeat' ((conv => whnf); first
              | refine draw_any 11 [(0, true), (2, true), (3, true), (4, true), (5, true), (6, true), (8, true), (1, true), (7, true), (9, false), (10, false), (11, true), (12, true), (13, true), (14, true), (15, false), (16, true)] [⟨wn, _⟩, ⟨gp, _⟩] rfl (by kernel_rfl) (kept_wg (wn := wn) (gp := gp) ?_)
              | refine kept_wg (wn := wn) (gp := gp) ?_
              | refine nv_eq (a := 5 - k) (by omega) ?_
              | refine fld1_row (n := wn) wyC_0 ?_
              | refine fld1_row (n := gp) (hjl (5 - k) (by omega)) ?_
              | refine ld1_row (n := gp) (hjl (5 - k) (by omega)) ?_
              | refine ld1_row (n := wn) wyC_0 ?_
              | refine ld1_row (n := ln) hl2 ?_
              | refine ldN_wsum (n := wn) ?_
              | (refine call_go hnode (.grp takeG (.grp takeG (.one takeG))) (fun o2 g1 g2 => ?_))
              | refine call_val hside ?_
              | refine call_val (split_ x.s (side leaf (5 - k)) (side_le _ _)) ?_
              | refine st_L (n := ln) (by omega) ?_
              | refine force_of ?_
              | refine need (dgV_len _) ?_
              | refine st_wsum (n := wn) ?_
              | refine iff' hx ?_
              | refine bld_nil ?_
              | refine ldN_way ?_
              | refine st_wz (n := rn4) ?_
              | refine need (wyC_len _ _) ?_
              | refine ld1_lit ?_
              | refine ldN_lit ?_
              | refine nw (fun n => ?_)
              | refine bld ?_
              | refine st_lit rfl ?_
              | refine need (by first | rfl | omega) ?_
              | (refine wr (fun z hz => ?_); (try rw [Int.tdiv_eq_ediv_of_nonneg (by omega)] at hz); rw [w64 (by omega) (by omega)] at hz; subst hz)
              | (refine zv (fun z hz => ?_); (try rw [Int.tmod_eq_emod_of_nonneg (by omega)] at hz); subst hz)
              | (refine ifs (fun h => ?_) (fun h => ?_) <;> (try (exfalso; first | omega | with_reducible contradiction | with_reducible exact h rfl))))
          all_goals (conv => whnf)
          all_goals exact fin_g (A := ⟨ln, _⟩ :: (rgM ⟨g.a, _⟩ ++ (orcM o2 ++ treM tn ⟨a, _⟩))) (.blk takeC (.grp takeG (.grp takeG (.one takeG)))) ⟨o2, by rw [g1, hq1], g2, ln, rfl, by rw [if_neg hx]; rfl⟩
      · obtain rfl : k = 6 := by omega
        rw [← ep, he0]
        repeat' ((conv => whnf); first
            | refine force_of ?_
            | refine ldN_way (n := wn) ?_
            | refine ldN_way (n := rn4) ?_
            | refine st_way (n := rn4) rfl ?_
            | refine need (wyC_len _ _) ?_
            | refine ld1_lit ?_
            | refine ldN_lit ?_
            | refine nw (fun n => ?_)
            | refine bld ?_
            | refine st_lit rfl ?_
            | refine need (by first | rfl | omega) ?_
            | (refine wr (fun z hz => ?_); (try rw [Int.tdiv_eq_ediv_of_nonneg (by omega)] at hz); rw [w64 (by omega) (by omega)] at hz; subst hz)
            | (refine zv (fun z hz => ?_); (try rw [Int.tmod_eq_emod_of_nonneg (by omega)] at hz); subst hz)
            | (refine ifs (fun h => ?_) (fun h => ?_) <;> (try (exfalso; first | omega | with_reducible contradiction | with_reducible exact h rfl))))
        all_goals (conv => whnf)
        all_goals exact fin_g (A := ⟨ln, _⟩ :: (rgM ⟨g.a, _⟩ ++ (orcM q ++ treM tn ⟨a, _⟩))) (.blk takeC (.grp takeG (.grp takeG (.one takeG)))) ⟨q, hq1, hq2, ln, rfl, by rw [if_pos rfl]; rfl⟩
theorem path_no (l : Int) (hl : ¬ (0 ≤ l ∧ l < 64)) : Fnc Tryz.prog 220 [.int .i64 l] [] (Ret (.tuple #[.slice none 0 0, .int .i64 3]) []) := by
  refine fn_intro Tryz.func220 (by kernel_rfl) ?_
  repeat' ((conv => whnf); first
      | refine ld1_lit ?_
      | refine ldN_lit ?_
      | refine nw (fun n => ?_)
      | refine bld ?_
      | refine st_lit rfl ?_
      | refine need (by first | rfl | omega) ?_
      | (refine wr (fun z hz => ?_); (try rw [Int.tdiv_eq_ediv_of_nonneg (by omega)] at hz); rw [w64 (by omega) (by omega)] at hz; subst hz)
      | (refine zv (fun z hz => ?_); (try rw [Int.tmod_eq_emod_of_nonneg (by omega)] at hz); subst hz)
      | (refine ifs (fun h => ?_) (fun h => ?_) <;> (try (exfalso; first | omega | with_reducible contradiction | with_reducible exact h rfl))))
  all_goals (conv => whnf)
  all_goals exact fin_nil ⟨rfl, rfl⟩
theorem tdown_no (tn : Nat) (l : Int) (hl : ¬ (0 ≤ l ∧ l < 64)) : Fnc Tryz.prog 169 [pt tn, .int .i64 l] [] (Ret (.tuple #[.agg (wyC (.slice none 0 0) zD).toArray, .int .i64 3]) []) := by
  have hz := wyC_z
  have hpath := path_no l hl
  refine fn_intro Tryz.func169 (by kernel_rfl) ?_
  repeat' ((conv => whnf); first
      | refine nw_row hz (fun n => ?_)
      | refine scope_rule ?_
      | refine call_val hpath ?_
      | refine bld_nil ?_
      | refine st_wz ?_
      | refine ldN_way ?_
      | refine ld1_lit ?_
      | refine ldN_lit ?_
      | refine nw (fun n => ?_)
      | refine bld ?_
      | refine st_lit rfl ?_
      | refine need (by first | rfl | omega) ?_
      | (refine wr (fun z hz => ?_); (try rw [Int.tdiv_eq_ediv_of_nonneg (by omega)] at hz); rw [w64 (by omega) (by omega)] at hz; subst hz)
      | (refine zv (fun z hz => ?_); (try rw [Int.tmod_eq_emod_of_nonneg (by omega)] at hz); subst hz)
      | (refine ifs (fun h => ?_) (fun h => ?_) <;> (try (exfalso; first | omega | with_reducible contradiction | with_reducible exact h rfl))))
  all_goals (conv => whnf)
  all_goals exact fin_nil ⟨rfl, rfl⟩
end Go.Proofs.YtohefdmfnllehaaGreat.Tree
