/- Trees: a leaf got. -/
import Derived.Test.YtohefdmfnllehaaGreatAf12
import Derived.Test.YtohefdmfnllehaaGreatAf4
namespace Go.Proofs.YtohefdmfnllehaaGreat.Tree
open Go Ev Sha Aes Orc Node
open Rig (RigP Rg rgM readR writeR z64 app_of)
set_option linter.unusedVariables false
set_option linter.unusedSimpArgs false
set_option maxRecDepth 100000
noncomputable def getX (p : DnP) (leaf : Nat) : RigP × List ByteArray × ByteArray × Int :=
  match getS p.t.sheet (224 + leaf : Nat) with
  | some s => (p.r, p.ts, s, 0)
  | none => readT leafD p.r p.ts p.t.d (224 + leaf : Nat) p.sum
structure GetR where
  r : RigP
  ts : List ByteArray
  t : TreP
  s : ByteArray
  is : Bool
  e : Int
open Classical in
noncomputable def getT (r : RigP) (ts : List ByteArray) (t : TreP) (leaf : Nat) : GetR :=
  if (downT r ts t leaf).e ≠ 0 then ⟨(downT r ts t leaf).r, (downT r ts t leaf).ts, (downT r ts t leaf).t, ByteArray.empty, false, (downT r ts t leaf).e⟩
  else if (getX (downT r ts t leaf) leaf).2.2.2 ≠ 0 ∨ (getX (downT r ts t leaf) leaf).2.2.1 = z64 then
    ⟨(getX (downT r ts t leaf) leaf).1, (getX (downT r ts t leaf) leaf).2.1, (downT r ts t leaf).t, ByteArray.empty, false, (getX (downT r ts t leaf) leaf).2.2.2⟩
  else ⟨(getX (downT r ts t leaf) leaf).1, (getX (downT r ts t leaf) leaf).2.1, (downT r ts t leaf).t, (getX (downT r ts t leaf) leaf).2.2.1, true, 0⟩
theorem getT_1 {r : RigP} {ts : List ByteArray} {t : TreP} {leaf : Nat} {p : DnP} (hp : p = downT r ts t leaf) (h : p.e ≠ 0) : getT r ts t leaf = ⟨p.r, p.ts, p.t, ByteArray.empty, false, p.e⟩ := by
  subst hp; unfold getT; rw [if_pos h]
theorem getT_2 {r : RigP} {ts : List ByteArray} {t : TreP} {leaf : Nat} {p : DnP} (hp : p = downT r ts t leaf) (h : p.e = 0) {x : RigP × List ByteArray × ByteArray × Int} (hx : getX p leaf = x) (h2 : x.2.2.2 ≠ 0 ∨ x.2.2.1 = z64) : getT r ts t leaf = ⟨x.1, x.2.1, p.t, ByteArray.empty, false, x.2.2.2⟩ := by
  subst hp; subst hx; unfold getT; rw [if_neg (by simp [h]), if_pos h2]
theorem getT_3 {r : RigP} {ts : List ByteArray} {t : TreP} {leaf : Nat} {p : DnP} (hp : p = downT r ts t leaf) (h : p.e = 0) {x : RigP × List ByteArray × ByteArray × Int} (hx : getX p leaf = x) (h2 : ¬ (x.2.2.2 ≠ 0 ∨ x.2.2.1 = z64)) : getT r ts t leaf = ⟨x.1, x.2.1, p.t, x.2.2.1, true, 0⟩ := by
  subst hp; subst hx; unfold getT; rw [if_neg (by simp [h]), if_neg h2]
attribute [local irreducible] dgV D vS mapK Instr.lookup Instr.mapUpdate Instr.makeMap Builtin.len_ treC readR readT nodeT wyC rowL pathV at_ Instr.makeSlice downT getT z64 convert Builtin.copy_ Builtin.append_
theorem tbare : Fnc Tryz.prog 175 [] [] (Ret (.string z64) []) := by
  have hz : str (List.replicate 64 0) = z64 := by unfold z64; rfl
  refine fn_intro Tryz.func175 (by kernel_rfl) ?_
  repeat' ((conv => whnf); first
      | refine mk_row rfl rfl rfl rfl rfl (by decide) (by decide) (by decide) (fun n => ?_)
      | (refine b2s_row (t := 5) (l := List.replicate 64 0) (junk := []) (by simp [u8s]) rfl rfl rfl (by simp) ?_; rw [hz])
      | refine ld1_lit ?_
      | refine ldN_lit ?_
      | refine nw (fun n => ?_)
      | refine bld ?_
      | refine st_lit rfl ?_
      | refine need (by first | rfl | omega) ?_
      | (refine wr (fun z hz => ?_); (try rw [Int.tdiv_eq_ediv_of_nonneg (by omega)] at hz); rw [w64 (by omega) (by omega)] at hz; subst hz)
      | (refine zv (fun z hz => ?_); (try rw [Int.tmod_eq_emod_of_nonneg (by omega)] at hz); subst hz)
      | (refine ifs (fun h => ?_) (fun h => ?_) <;> (try (exfalso; first | omega | with_reducible contradiction | with_reducible exact h rfl))))
  all_goals (conv => whnf)
  all_goals exact fin_nil ⟨rfl, rfl⟩
theorem getV_some {l : List (Int × ByteArray)} {k : Int} {s : ByteArray} (h : getS l k = some s) : getV l k = s := by unfold getV; rw [h]; rfl
set_option maxHeartbeats 4000000 in
theorem tget (g : Rg) (o : Orc) (tn : Nat) (a : TreA) (t : TreP) (leaf : Nat) (hl : leaf < 64) (hrn : a.rn = g.a.rn) (hon : a.on = o.on) (hb : o.ts.length ≤ 1099511620000) :
    Fnc Tryz.prog 96 [pt tn, .int .i64 leaf] (rgM g ++ (orcM o ++ treM tn ⟨a, t⟩))
      (RetO o (getT g.r o.ts t leaf).ts (fun o' => rgM ⟨g.a, (getT g.r o.ts t leaf).r⟩ ++ (orcM o' ++ treM tn ⟨a, (getT g.r o.ts t leaf).t⟩)) (.tuple #[.string (getT g.r o.ts t leaf).s, .bool (getT g.r o.ts t leaf).is, .int .i64 (getT g.r o.ts t leaf).e])) := by
  have hz := wyC_z
  have hdown := tdown g o tn a t leaf hl hrn hon hb
  have hla := leafAt_ok hl
  have hlen := dn_len leaf (dn0 g.r o.ts t) 6
  obtain ⟨p, ep⟩ : ∃ p, p = downT g.r o.ts t leaf := ⟨_, rfl⟩
  rw [← ep] at hdown
  have hlen : p.ts.length ≤ o.ts.length + 6 := by rw [ep]; unfold downT; exact hlen
  by_cases he : p.e = 0
  · cases hg : getS p.t.sheet (224 + leaf : Nat) with
    | some s =>
      have hx : getX p leaf = (p.r, p.ts, s, 0) := by unfold getX; rw [hg]
      have hsg := sget a.sn a.mn p.t.sheet (224 + leaf : Nat)
      rw [getV_some hg, hg] at hsg
      by_cases hs : s = z64
      · rw [getT_2 ep he hx (.inr hs)]
        dsimp only
        refine fn_intro Tryz.func96 (by kernel_rfl) ?_
        repeat' ((conv => whnf); first
            | (refine call_g hdown (.grp takeG (.grp takeG (.one takeG))) (fun e A' hq => ?_); obtain ⟨o1, a1, a2, ln, h1, h2⟩ := hq; rw [he, if_pos rfl] at h2; subst h1; subst h2; unfold treM)
            | refine nw_row hz (fun n => ?_)
            | refine force_of ?_
            | refine need (wyC_len _ _) ?_
            | refine st_way rfl ?_
            | refine call_val hla ?_
            | refine call_val tbare ?_
            | refine ld1_row (n := tn) treC_s ?_
            | refine call_gr hsg (.blk takeC (.blk takeC .nil)) ?_
            | refine ldN_wsum ?_
            | refine ift hs ?_
            | refine ld1_lit ?_
            | refine ldN_lit ?_
            | refine nw (fun n => ?_)
            | refine bld ?_
            | refine st_lit rfl ?_
            | refine need (by first | rfl | omega) ?_
            | (refine wr (fun z hz => ?_); (try rw [Int.tdiv_eq_ediv_of_nonneg (by omega)] at hz); rw [w64 (by omega) (by omega)] at hz; subst hz)
            | (refine zv (fun z hz => ?_); (try rw [Int.tmod_eq_emod_of_nonneg (by omega)] at hz); subst hz)
            | (refine ifs (fun h => ?_) (fun h => ?_) <;> (try (exfalso; first | omega | with_reducible contradiction | with_reducible exact h rfl))))
        all_goals (conv => whnf)
        all_goals exact fin_g (A := rgM ⟨g.a, _⟩ ++ (orcM o1 ++ [⟨tn, _⟩, ⟨a.sn, _⟩, ⟨a.mn, _⟩, ⟨a.kn, _⟩])) (.grp takeG (.grp takeG (.blk takeC (.blk takeC (.blk takeC (.blk takeC .nil)))))) ⟨o1, a1, a2, rfl, rfl⟩
      · rw [getT_3 ep he hx (by rintro (h | h) <;> contradiction)]
        dsimp only
        refine fn_intro Tryz.func96 (by kernel_rfl) ?_
        repeat' ((conv => whnf); first
            | (refine call_g hdown (.grp takeG (.grp takeG (.one takeG))) (fun e A' hq => ?_); obtain ⟨o1, a1, a2, ln, h1, h2⟩ := hq; rw [he, if_pos rfl] at h2; subst h1; subst h2; unfold treM)
            | refine nw_row hz (fun n => ?_)
            | refine force_of ?_
            | refine need (wyC_len _ _) ?_
            | refine st_way rfl ?_
            | refine call_val hla ?_
            | refine call_val tbare ?_
            | refine ld1_row (n := tn) treC_s ?_
            | refine call_gr hsg (.blk takeC (.blk takeC .nil)) ?_
            | refine ldN_wsum ?_
            | refine iff' hs ?_
            | refine ld1_lit ?_
            | refine ldN_lit ?_
            | refine nw (fun n => ?_)
            | refine bld ?_
            | refine st_lit rfl ?_
            | refine need (by first | rfl | omega) ?_
            | (refine wr (fun z hz => ?_); (try rw [Int.tdiv_eq_ediv_of_nonneg (by omega)] at hz); rw [w64 (by omega) (by omega)] at hz; subst hz)
            | (refine zv (fun z hz => ?_); (try rw [Int.tmod_eq_emod_of_nonneg (by omega)] at hz); subst hz)
            | (refine ifs (fun h => ?_) (fun h => ?_) <;> (try (exfalso; first | omega | with_reducible contradiction | with_reducible exact h rfl))))
        all_goals (conv => whnf)
        all_goals exact fin_g (A := rgM ⟨g.a, _⟩ ++ (orcM o1 ++ [⟨tn, _⟩, ⟨a.sn, _⟩, ⟨a.mn, _⟩, ⟨a.kn, _⟩])) (.grp takeG (.grp takeG (.blk takeC (.blk takeC (.blk takeC (.blk takeC .nil)))))) ⟨o1, a1, a2, rfl, rfl⟩
    | none =>
      have hx : getX p leaf = readT leafD p.r p.ts p.t.d (224 + leaf : Nat) p.sum := by unfold getX; rw [hg]
      have hsg := sget a.sn a.mn p.t.sheet (224 + leaf : Nat)
      rw [show getV p.t.sheet (224 + leaf : Nat) = ByteArray.empty by unfold getV; rw [hg]; rfl, hg] at hsg
      have hr : ∀ (o1 : Orc) (c : Nat), o1.on = o.on → o1.ts = p.ts → Fnc Tryz.prog 172 [pt tn, .int .i64 (224 + leaf : Nat), .func (.func 173) #[] #[pt c], .agg (dgV p.sum).toArray] (rgM ⟨g.a, p.r⟩ ++ (orcM o1 ++ [cT c tn, tB tn a p.t.d p.t.root]))
          (RetO o1 (readT leafD p.r p.ts p.t.d (224 + leaf : Nat) p.sum).2.1 (fun o' => rgM ⟨g.a, (readT leafD p.r p.ts p.t.d (224 + leaf : Nat) p.sum).1⟩ ++ (orcM o' ++ [cT c tn, tB tn a p.t.d p.t.root])) (.tuple #[.string (readT leafD p.r p.ts p.t.d (224 + leaf : Nat) p.sum).2.2.1, .int .i64 (readT leafD p.r p.ts p.t.d (224 + leaf : Nat) p.sum).2.2.2])) := fun o1 c h1 h2 => by
        have := tread leafD ⟨g.a, p.r⟩ o1 a p.t.d p.t.root tn c (224 + leaf : Nat) p.sum 173 hrn (fun s => cl_leaf o1 a p.t.d p.t.root tn c s (hon.trans h1.symm) (by rw [h2]; omega))
        rw [h2] at this
        exact this
      obtain ⟨x, ex⟩ : ∃ x, x = readT leafD p.r p.ts p.t.d (224 + leaf : Nat) p.sum := ⟨_, rfl⟩
      rw [← ex] at hx hr
      by_cases hxe : x.2.2.2 = 0
      · rw [hxe] at hr
        by_cases hs : x.2.2.1 = z64
        · rw [getT_2 ep he hx (.inr hs)]
          dsimp only
          rw [hxe]
          refine fn_intro Tryz.func96 (by kernel_rfl) ?_
          repeat' ((conv => whnf); first
              | (refine call_g hdown (.grp takeG (.grp takeG (.one takeG))) (fun e A' hq => ?_); obtain ⟨o1, a1, a2, ln, h1, h2⟩ := hq; rw [he, if_pos rfl] at h2; subst h1; subst h2; unfold treM)
              | refine nw_row hz (fun n => ?_)
              | refine force_of ?_
              | refine need (wyC_len _ _) ?_
              | refine st_way rfl ?_
              | refine call_val hla ?_
              | refine call_val tbare ?_
              | refine ld1_row (n := tn) treC_s ?_
              | refine call_gr hsg (.blk takeC (.blk takeC .nil)) ?_
              | refine ldN_wsum ?_
              | (refine call_go (hr _ _ a1 a2) (.grp takeG (.grp takeG (.blk takeC (.blk takeC .nil)))) (fun o2 b1 b2 => ?_))
              | refine ift hs ?_
              | refine ld1_lit ?_
              | refine ldN_lit ?_
              | refine nw (fun n => ?_)
              | refine bld ?_
              | refine st_lit rfl ?_
              | refine need (by first | rfl | omega) ?_
              | (refine wr (fun z hz => ?_); (try rw [Int.tdiv_eq_ediv_of_nonneg (by omega)] at hz); rw [w64 (by omega) (by omega)] at hz; subst hz)
              | (refine zv (fun z hz => ?_); (try rw [Int.tmod_eq_emod_of_nonneg (by omega)] at hz); subst hz)
              | (refine ifs (fun h => ?_) (fun h => ?_) <;> (try (exfalso; first | omega | with_reducible contradiction | with_reducible exact h rfl))))
          all_goals (conv => whnf)
          all_goals exact fin_g (A := rgM ⟨g.a, _⟩ ++ (orcM o2 ++ [⟨tn, _⟩, ⟨a.sn, _⟩, ⟨a.mn, _⟩, ⟨a.kn, _⟩])) (.grp takeG (.grp takeG (.blk takeC (.blk takeC (.blk takeC (.blk takeC .nil)))))) ⟨o2, b1.trans a1, b2, rfl, rfl⟩
        · rw [getT_3 ep he hx (by rintro (h | h) <;> contradiction)]
          dsimp only
          refine fn_intro Tryz.func96 (by kernel_rfl) ?_
          repeat' ((conv => whnf); first
              | (refine call_g hdown (.grp takeG (.grp takeG (.one takeG))) (fun e A' hq => ?_); obtain ⟨o1, a1, a2, ln, h1, h2⟩ := hq; rw [he, if_pos rfl] at h2; subst h1; subst h2; unfold treM)
              | refine nw_row hz (fun n => ?_)
              | refine force_of ?_
              | refine need (wyC_len _ _) ?_
              | refine st_way rfl ?_
              | refine call_val hla ?_
              | refine call_val tbare ?_
              | refine ld1_row (n := tn) treC_s ?_
              | refine call_gr hsg (.blk takeC (.blk takeC .nil)) ?_
              | refine ldN_wsum ?_
              | (refine call_go (hr _ _ a1 a2) (.grp takeG (.grp takeG (.blk takeC (.blk takeC .nil)))) (fun o2 b1 b2 => ?_))
              | refine iff' hs ?_
              | refine ld1_lit ?_
              | refine ldN_lit ?_
              | refine nw (fun n => ?_)
              | refine bld ?_
              | refine st_lit rfl ?_
              | refine need (by first | rfl | omega) ?_
              | (refine wr (fun z hz => ?_); (try rw [Int.tdiv_eq_ediv_of_nonneg (by omega)] at hz); rw [w64 (by omega) (by omega)] at hz; subst hz)
              | (refine zv (fun z hz => ?_); (try rw [Int.tmod_eq_emod_of_nonneg (by omega)] at hz); subst hz)
              | (refine ifs (fun h => ?_) (fun h => ?_) <;> (try (exfalso; first | omega | with_reducible contradiction | with_reducible exact h rfl))))
          all_goals (conv => whnf)
          all_goals exact fin_g (A := rgM ⟨g.a, _⟩ ++ (orcM o2 ++ [⟨tn, _⟩, ⟨a.sn, _⟩, ⟨a.mn, _⟩, ⟨a.kn, _⟩])) (.grp takeG (.grp takeG (.blk takeC (.blk takeC (.blk takeC (.blk takeC .nil)))))) ⟨o2, b1.trans a1, b2, rfl, rfl⟩
      · rw [getT_2 ep he hx (.inl hxe)]
        dsimp only
        obtain ⟨xe, exe⟩ : ∃ z, z = x.2.2.2 := ⟨_, rfl⟩
        rw [← exe] at hxe hr ⊢
        refine fn_intro Tryz.func96 (by kernel_rfl) ?_
        repeat' ((conv => whnf); first
            | (refine call_g hdown (.grp takeG (.grp takeG (.one takeG))) (fun e A' hq => ?_); obtain ⟨o1, a1, a2, ln, h1, h2⟩ := hq; rw [he, if_pos rfl] at h2; subst h1; subst h2; unfold treM)
            | refine nw_row hz (fun n => ?_)
            | refine force_of ?_
            | refine need (wyC_len _ _) ?_
            | refine st_way rfl ?_
            | refine call_val hla ?_
            | refine call_val tbare ?_
            | refine ld1_row (n := tn) treC_s ?_
            | refine call_gr hsg (.blk takeC (.blk takeC .nil)) ?_
            | refine ldN_wsum ?_
            | (refine call_go (hr _ _ a1 a2) (.grp takeG (.grp takeG (.blk takeC (.blk takeC .nil)))) (fun o2 b1 b2 => ?_))
            | refine iff' hxe ?_
            | refine ld1_lit ?_
            | refine ldN_lit ?_
            | refine nw (fun n => ?_)
            | refine bld ?_
            | refine st_lit rfl ?_
            | refine need (by first | rfl | omega) ?_
            | (refine wr (fun z hz => ?_); (try rw [Int.tdiv_eq_ediv_of_nonneg (by omega)] at hz); rw [w64 (by omega) (by omega)] at hz; subst hz)
            | (refine zv (fun z hz => ?_); (try rw [Int.tmod_eq_emod_of_nonneg (by omega)] at hz); subst hz)
            | (refine ifs (fun h => ?_) (fun h => ?_) <;> (try (exfalso; first | omega | with_reducible contradiction | with_reducible exact h rfl))))
        all_goals (conv => whnf)
        all_goals exact fin_g (A := rgM ⟨g.a, _⟩ ++ (orcM o2 ++ [⟨tn, _⟩, ⟨a.sn, _⟩, ⟨a.mn, _⟩, ⟨a.kn, _⟩])) (.grp takeG (.grp takeG (.blk takeC (.blk takeC (.blk takeC (.blk takeC .nil)))))) ⟨o2, b1.trans a1, b2, rfl, rfl⟩
  · rw [getT_1 ep he]
    obtain ⟨pe, epe⟩ : ∃ z, z = p.e := ⟨_, rfl⟩
    rw [← epe] at he hdown ⊢
    refine fn_intro Tryz.func96 (by kernel_rfl) ?_
    repeat' ((conv => whnf); first
        | (refine call_g hdown (.grp takeG (.grp takeG (.one takeG))) (fun e A' hq => ?_); obtain ⟨o1, a1, a2, ln, h1, h2⟩ := hq; rw [if_neg he] at h2; subst h1; subst h2)
        | refine nw_row hz (fun n => ?_)
        | refine force_of ?_
        | refine need (wyC_len _ _) ?_
        | refine st_way rfl ?_
        | refine iff' he ?_
        | refine ld1_lit ?_
        | refine ldN_lit ?_
        | refine nw (fun n => ?_)
        | refine bld ?_
        | refine st_lit rfl ?_
        | refine need (by first | rfl | omega) ?_
        | (refine wr (fun z hz => ?_); (try rw [Int.tdiv_eq_ediv_of_nonneg (by omega)] at hz); rw [w64 (by omega) (by omega)] at hz; subst hz)
        | (refine zv (fun z hz => ?_); (try rw [Int.tmod_eq_emod_of_nonneg (by omega)] at hz); subst hz)
        | (refine ifs (fun h => ?_) (fun h => ?_) <;> (try (exfalso; first | omega | with_reducible contradiction | with_reducible exact h rfl))))
    all_goals (conv => whnf)
    all_goals exact fin_g (A := rgM ⟨g.a, _⟩ ++ (orcM o1 ++ treM tn ⟨a, _⟩)) (.grp takeG (.grp takeG (.one takeG))) ⟨o1, a1, a2, rfl, rfl⟩
end Go.Proofs.YtohefdmfnllehaaGreat.Tree
/- Trees: a leaf changed. -/
namespace Go.Proofs.YtohefdmfnllehaaGreat.Tree
open Go Ev Sha Aes Orc Node
open Rig (RigP Rg rgM readR writeR z64 app_of)
set_option linter.unusedVariables false
set_option linter.unusedSimpArgs false
set_option maxRecDepth 100000
/-- On the way up. -/
structure ChP where
  ts : List ByteArray
  t : TreP
  sum : Dg
noncomputable def chB (leaf : Nat) (l : Nat → ByteArray) (i : Nat) (p : ChP) : ByteArray := withS (l i) (side leaf i) p.sum
noncomputable def chS (leaf : Nat) (l : Nat → ByteArray) (i : Nat) (p : ChP) : ChP :=
  ⟨(nodeD p.ts (chB leaf l i p)).1, { p.t with known := setS p.t.known (at_ leaf (i + 1) : Nat) (chB leaf l i p), sheet := setS p.t.sheet (161 + at_ leaf (i + 1) : Nat) (chB leaf l i p) }, (nodeD p.ts (chB leaf l i p)).2⟩
noncomputable def chg (leaf : Nat) (l : Nat → ByteArray) (p : ChP) : Nat → ChP
  | 0 => p
  | i + 1 => chS leaf l i (chg leaf l p i)
theorem chg_len (leaf : Nat) (l : Nat → ByteArray) (p : ChP) : ∀ k, (chg leaf l p k).ts.length ≤ p.ts.length + k
  | 0 => Nat.le_refl _
  | k + 1 => by
    have ih := chg_len leaf l p k
    have := nodeD_len (chg leaf l p k).ts (chB leaf l k (chg leaf l p k))
    show (nodeD (chg leaf l p k).ts (chB leaf l k (chg leaf l p k))).1.length ≤ _
    omega
theorem chg_s (leaf : Nat) (l : Nat → ByteArray) (p : ChP) (k : Nat) : chg leaf l p (k + 1) = chS leaf l k (chg leaf l p k) := rfl
theorem chg_0 (leaf : Nat) (l : Nat → ByteArray) (p : ChP) : chg leaf l p 0 = p := rfl
theorem chg_d (leaf : Nat) (l : Nat → ByteArray) (p : ChP) : ∀ k, (chg leaf l p k).t.d = p.t.d ∧ (chg leaf l p k).t.root = p.t.root
  | 0 => ⟨rfl, rfl⟩
  | k + 1 => chg_d leaf l p k
theorem wyC_f {v : Value} {s : Dg} : (wyC v s)[0]? = some v := rfl
attribute [local irreducible] dgV D vS mapK Instr.lookup Instr.mapUpdate Instr.makeMap Builtin.len_ treC readR readT nodeT wyC rowL pathV at_ Instr.makeSlice downT getT z64 convert Builtin.copy_ Builtin.append_ withS nodeD
set_option maxHeartbeats 4000000 in
theorem tchange (o : Orc) (tn : Nat) (a : TreA) (t : TreP) (leaf : Nat) (ln : Nat) (l : Nat → ByteArray) (ws sum : Dg) (hl : leaf < 64) (hon : a.on = o.on) (hb : o.ts.length ≤ 1099511620000) :
    Fnc Tryz.prog 176 [pt tn, .int .i64 leaf, .agg (wyC (sl6 ln) ws).toArray, .agg (dgV sum).toArray] (lB ln l :: (orcM o ++ treM tn ⟨a, t⟩))
      (RetO o (chg leaf l ⟨o.ts, t, sum⟩ 6).ts (fun o' => lB ln l :: (orcM o' ++ treM tn ⟨a, { (chg leaf l ⟨o.ts, t, sum⟩ 6).t with root := (chg leaf l ⟨o.ts, t, sum⟩ 6).sum }⟩)) (.tuple #[])) := by
  have hpath := path_ leaf hl
  unfold treM
  refine fn_intro Tryz.func176 (by kernel_rfl) ?_
  repeat' ((conv => whnf); first
      | refine force_of ?_
      | refine nw_row (cs' := wyC (sl6 ln) ws) rfl (fun n => ?_)
      | refine nw_dg (fun n => ?_)
      | (refine call_g hpath .nil (fun e A' hq => ?_); obtain ⟨S, hS, h1, h2⟩ := hq; subst h1; subst h2)
      | refine ld1_lit ?_
      | refine ldN_lit ?_
      | refine nw (fun n => ?_)
      | refine bld ?_
      | refine st_lit rfl ?_
      | refine need (by first | rfl | omega) ?_
      | (refine wr (fun z hz => ?_); (try rw [Int.tdiv_eq_ediv_of_nonneg (by omega)] at hz); rw [w64 (by omega) (by omega)] at hz; subst hz)
      | (refine zv (fun z hz => ?_); (try rw [Int.tmod_eq_emod_of_nonneg (by omega)] at hz); subst hz)
      | (refine ifs (fun h => ?_) (fun h => ?_) <;> (try (exfalso; first | omega | with_reducible contradiction | with_reducible exact h rfl))))
  revert n; intro dn
  revert n; intro wn
  cases S with
  | nil => have := hS.2; simp only at this; omega
  | at_ gp cap junk =>
    have hjl : ∀ k, k < 6 → (pathV leaf 6 ++ junk)[k]? = some (.int .i64 (at_ leaf (k + 1) : Nat)) := fun k hk => by
      rw [List.getElem?_append_left (by rw [pathV_len]; exact hk), pathV_at hk]
    simp only [Own.blk]
    obtain ⟨p0, hp0⟩ : ∃ p, p = (⟨o.ts, t, sum⟩ : ChP) := ⟨_, rfl⟩
    have hpt : p0.ts = o.ts ∧ p0.t = t ∧ p0.sum = sum := by rw [hp0]; exact ⟨rfl, rfl, rfl⟩
    have hd := chg_d leaf l p0
    rw [hpt.2.1] at hd
    rw [← hp0]
    refine loop_rule [25] (fun vs M m => ∃ (k : Nat) (q : Orc), vs = [.int .i64 k] ∧ k ≤ 6 ∧ q.on = o.on ∧ q.ts = (chg leaf l p0 k).ts ∧ m = 6 - k ∧
      M = ⟨dn, .row (dgV (chg leaf l p0 k).sum) 57⟩ :: wB wn (sl6 ln) ws :: ⟨gp, .row (pathV leaf 6 ++ junk) 3⟩ :: lB ln l :: (orcM q ++ [tB tn a t.d t.root, shB a.sn a.mn, mpB a.mn (chg leaf l p0 k).t.sheet, mpB a.kn (chg leaf l p0 k).t.known])) rfl ?_ ?_
    · exact fin_g (A := ⟨dn, _⟩ :: ⟨wn, _⟩ :: ⟨gp, _⟩ :: ⟨ln, _⟩ :: (orcM o ++ [⟨tn, _⟩, ⟨a.sn, _⟩, ⟨a.mn, _⟩, ⟨a.kn, _⟩])) (.blk takeC (.blk takeC (.blk takeC (.blk takeC (.grp takeG (.blk takeC (.blk takeC (.blk takeC (.blk takeC .nil))))))))) ⟨_, 0, o, rfl, by omega, rfl, by rw [chg_0, hpt.1], rfl, by rw [chg_0, hpt.2.1, hpt.2.2]⟩
    rintro vs junk2 M' m ⟨k, q, rfl, hk, hq1, hq2, rfl, rfl⟩
    have hlen := chg_len leaf l p0 k
    have hnext := chg_s leaf l p0 k
    have hdk := hd 6
    rw [hpt.1] at hlen
    by_cases hk6 : k < 6
    · obtain ⟨p, ep⟩ : ∃ p, p = chg leaf l p0 k := ⟨_, rfl⟩
      rw [← ep] at hq2 hlen hnext ⊢
      obtain ⟨s, es⟩ : ∃ s, s = withS (l k) (side leaf k) p.sum := ⟨_, rfl⟩
      have hw := with_ (l k) (side leaf k) p.sum (side_le _ _)
      rw [← es] at hw
      have hnode := node_ q s (by rw [hq2]; omega)
      rw [hq2, hq1] at hnode
      have hside := side_ leaf k hl hk6
      have hna := nodeAt_ok (at_node hl hk6)
      have hset := sset a.sn a.mn p.t.sheet (161 + at_ leaf (k + 1) : Nat) s
      have hc : chS leaf l k p = ⟨(nodeD p.ts s).1, { p.t with known := setS p.t.known (at_ leaf (k + 1) : Nat) s, sheet := setS p.t.sheet (161 + at_ leaf (k + 1) : Nat) s }, (nodeD p.ts s).2⟩ := by
        unfold chS chB; rw [← es]
      repeat' ((conv => whnf); first
          | refine nv_eq (a := k) (by omega) ?_
          | refine ld1_row (n := gp) (hjl k hk6) ?_
          | refine call_val hside ?_
          | refine call_val hw ?_
          | refine call_val hna ?_
          | refine draw_any 6 [(0, true), (2, true), (5, true), (1, true), (3, true), (4, true), (6, false), (7, false), (8, true), (9, true), (10, true), (11, true), (12, true)] [⟨wn, _⟩, ⟨ln, _⟩] rfl (by kernel_rfl) (kept_wg (wn := wn) (gp := ln) ?_)
          | refine kept_wg (wn := wn) (gp := ln) ?_
          | refine fld1_row (n := wn) wyC_0 ?_
          | refine fld1_row (n := ln) (rowL_at hk6) ?_
          | refine ldN_dg (n := dn) rfl ?_
          | refine ld1_row (n := tn) treC_k ?_
          | refine ld1_row (n := tn) treC_s ?_
          | refine ld1_row (n := tn) treC_1 ?_
          | (refine map_put (keyI rfl) rfl ?_; rw [setM_vS])
          | refine call_gr hset (.blk takeC (.blk takeC .nil)) ?_
          | (rw [hon]; refine call_go hnode (.one takeG) (fun o2 g1 g2 => ?_))
          | refine force_of ?_
          | refine need (dgV_len _) ?_
          | refine st_dg (n := dn) ?_
          | refine ld1_lit ?_
          | refine ldN_lit ?_
          | refine nw (fun n => ?_)
          | refine bld ?_
          | refine st_lit rfl ?_
          | refine need (by first | rfl | omega) ?_
          | (refine wr (fun z hz => ?_); (try rw [Int.tdiv_eq_ediv_of_nonneg (by omega)] at hz); rw [w64 (by omega) (by omega)] at hz; subst hz)
          | (refine zv (fun z hz => ?_); (try rw [Int.tmod_eq_emod_of_nonneg (by omega)] at hz); subst hz)
          | (refine ifs (fun h => ?_) (fun h => ?_) <;> (try (exfalso; first | omega | with_reducible contradiction | with_reducible exact h rfl))))
      all_goals (conv => whnf)
      all_goals exact ⟨rfl, fin_g (A := ⟨dn, _⟩ :: ⟨wn, _⟩ :: ⟨gp, _⟩ :: ⟨ln, _⟩ :: (orcM o2 ++ [⟨tn, _⟩, ⟨a.sn, _⟩, ⟨a.mn, _⟩, ⟨a.kn, _⟩])) (.blk takeC (.blk takeC (.blk takeC (.blk takeC (.grp takeG (.blk takeC (.blk takeC (.blk takeC (.blk takeC .nil))))))))) ⟨6 - (k + 1), by omega, k + 1, o2, rfl, by omega, by rw [g1, hq1], by rw [g2, hnext, hc], rfl, by rw [hnext, hc]; rfl⟩⟩
    · obtain rfl : k = 6 := by omega
      repeat' ((conv => whnf); first
          | refine ldN_dg (n := dn) rfl ?_
          | refine force_of ?_
          | refine need (dgV_len _) ?_
          | refine st_root (n := tn) ?_
          | refine ld1_lit ?_
          | refine ldN_lit ?_
          | refine nw (fun n => ?_)
          | refine bld ?_
          | refine st_lit rfl ?_
          | refine need (by first | rfl | omega) ?_
          | (refine wr (fun z hz => ?_); (try rw [Int.tdiv_eq_ediv_of_nonneg (by omega)] at hz); rw [w64 (by omega) (by omega)] at hz; subst hz)
          | (refine zv (fun z hz => ?_); (try rw [Int.tmod_eq_emod_of_nonneg (by omega)] at hz); subst hz)
          | (refine ifs (fun h => ?_) (fun h => ?_) <;> (try (exfalso; first | omega | with_reducible contradiction | with_reducible exact h rfl))))
      all_goals (conv => whnf)
      all_goals exact fin_g (A := ⟨ln, _⟩ :: (orcM q ++ [⟨tn, _⟩, ⟨a.sn, _⟩, ⟨a.mn, _⟩, ⟨a.kn, _⟩])) (.blk takeC (.grp takeG (.blk takeC (.blk takeC (.blk takeC (.blk takeC .nil)))))) ⟨q, hq1, hq2, by dsimp only; rw [hdk.1], rfl⟩
/-- A leaf put. -/
structure PutR where
  r : RigP
  ts : List ByteArray
  t : TreP
  e : Int
noncomputable def putC (p : DnP) (leaf : Nat) (block : ByteArray) : ChP := chg leaf p.l ⟨(leafD p.ts block).1, p.t, (leafD p.ts block).2⟩ 6
noncomputable def putT (r : RigP) (ts : List ByteArray) (t : TreP) (leaf : Nat) (block : ByteArray) : PutR :=
  if (downT r ts t leaf).e ≠ 0 then ⟨(downT r ts t leaf).r, (downT r ts t leaf).ts, (downT r ts t leaf).t, (downT r ts t leaf).e⟩
  else ⟨(downT r ts t leaf).r, (putC (downT r ts t leaf) leaf block).ts, { (putC (downT r ts t leaf) leaf block).t with root := (putC (downT r ts t leaf) leaf block).sum, sheet := setS (putC (downT r ts t leaf) leaf block).t.sheet (224 + leaf : Nat) block }, 0⟩
theorem putT_1 {r : RigP} {ts : List ByteArray} {t : TreP} {leaf : Nat} {block : ByteArray} {p : DnP} (hp : p = downT r ts t leaf) (h : p.e ≠ 0) : putT r ts t leaf block = ⟨p.r, p.ts, p.t, p.e⟩ := by
  subst hp; unfold putT; rw [if_pos h]
theorem putT_2 {r : RigP} {ts : List ByteArray} {t : TreP} {leaf : Nat} {block : ByteArray} {p : DnP} (hp : p = downT r ts t leaf) (h : p.e = 0) {c : ChP} (hc : c = putC p leaf block) : putT r ts t leaf block = ⟨p.r, c.ts, { c.t with root := c.sum, sheet := setS c.t.sheet (224 + leaf : Nat) block }, 0⟩ := by
  subst hp; subst hc; unfold putT; rw [if_neg (by simp [h])]
theorem tput_no (tn : Nat) (leaf : Int) (block : ByteArray) (h : ¬ (0 ≤ leaf ∧ leaf < 64)) : Fnc Tryz.prog 100 [pt tn, .int .i64 leaf, .string block] [] (Ret (.int .i64 3) []) := by
  have hla := leafAt_no h
  refine fn_intro Tryz.func100 (by kernel_rfl) ?_
  repeat' ((conv => whnf); first
      | refine call_val hla ?_
      | refine ld1_lit ?_
      | refine ldN_lit ?_
      | refine nw (fun n => ?_)
      | refine bld ?_
      | refine st_lit rfl ?_
      | refine need (by first | rfl | omega) ?_
      | (refine wr (fun z hz => ?_); (try rw [Int.tdiv_eq_ediv_of_nonneg (by omega)] at hz); rw [w64 (by omega) (by omega)] at hz; subst hz)
      | (refine zv (fun z hz => ?_); (try rw [Int.tmod_eq_emod_of_nonneg (by omega)] at hz); subst hz)
      | (refine ifs (fun h => ?_) (fun h => ?_) <;> (try (exfalso; first | omega | with_reducible contradiction | with_reducible exact h rfl))))
  all_goals (conv => whnf)
  all_goals exact fin_nil ⟨rfl, rfl⟩
theorem tput_form (tn : Nat) (leaf : Nat) (block : ByteArray) (h : leaf < 64) (hs : ¬ block.size = 64) : Fnc Tryz.prog 100 [pt tn, .int .i64 leaf, .string block] [] (Ret (.int .i64 6) []) := by
  have hla := leafAt_ok h
  refine fn_intro Tryz.func100 (by kernel_rfl) ?_
  repeat' ((conv => whnf); first
      | refine call_val hla ?_
      | refine ld1_lit ?_
      | refine ldN_lit ?_
      | refine nw (fun n => ?_)
      | refine bld ?_
      | refine st_lit rfl ?_
      | refine need (by first | rfl | omega) ?_
      | (refine wr (fun z hz => ?_); (try rw [Int.tdiv_eq_ediv_of_nonneg (by omega)] at hz); rw [w64 (by omega) (by omega)] at hz; subst hz)
      | (refine zv (fun z hz => ?_); (try rw [Int.tmod_eq_emod_of_nonneg (by omega)] at hz); subst hz)
      | (refine ifs (fun h => ?_) (fun h => ?_) <;> (try (exfalso; first | omega | with_reducible contradiction | with_reducible exact h rfl))))
  all_goals (conv => whnf)
  all_goals exact fin_nil ⟨rfl, rfl⟩
attribute [local irreducible] putC putT
set_option maxHeartbeats 4000000 in
theorem tput (g : Rg) (o : Orc) (tn : Nat) (a : TreA) (t : TreP) (leaf : Nat) (block : ByteArray) (hl : leaf < 64) (hs : block.size = 64) (hrn : a.rn = g.a.rn) (hon : a.on = o.on) (hb : o.ts.length ≤ 1099511610000) :
    Fnc Tryz.prog 100 [pt tn, .int .i64 leaf, .string block] (rgM g ++ (orcM o ++ treM tn ⟨a, t⟩))
      (RetO o (putT g.r o.ts t leaf block).ts (fun o' => rgM ⟨g.a, (putT g.r o.ts t leaf block).r⟩ ++ (orcM o' ++ treM tn ⟨a, (putT g.r o.ts t leaf block).t⟩)) (.int .i64 (putT g.r o.ts t leaf block).e)) := by
  have hz := wyC_z
  have hdown := tdown g o tn a t leaf hl hrn hon (by omega)
  have hla := leafAt_ok hl
  have hlen := dn_len leaf (dn0 g.r o.ts t) 6
  obtain ⟨p, ep⟩ : ∃ p, p = downT g.r o.ts t leaf := ⟨_, rfl⟩
  rw [← ep] at hdown
  have hlen : p.ts.length ≤ o.ts.length + 6 := by rw [ep]; unfold downT; exact hlen
  by_cases he : p.e = 0
  · have hleaf : ∀ o1 : Orc, o1.on = o.on → o1.ts = p.ts → Fnc Tryz.prog 174 [pt a.on, .string block] (orcM o1) (RetO o1 (leafD p.ts block).1 orcM (.tuple #[.agg (dgV (leafD p.ts block).2).toArray, .int .i64 (sizeE block)])) := fun o1 h1 h2 => by
      have := leaf_ o1 block (by rw [h2]; omega)
      rw [h1, h2, ← hon] at this
      exact this
    obtain ⟨c, ec⟩ : ∃ c, c = putC p leaf block := ⟨_, rfl⟩
    have hch : ∀ (o2 : Orc) (ln : Nat), o2.on = o.on → o2.ts = (leafD p.ts block).1 → Fnc Tryz.prog 176 [pt tn, .int .i64 leaf, .agg (wyC (sl6 ln) p.sum).toArray, .agg (dgV (leafD p.ts block).2).toArray] (lB ln p.l :: (orcM o2 ++ treM tn ⟨a, p.t⟩))
        (RetO o2 c.ts (fun o' => lB ln p.l :: (orcM o' ++ treM tn ⟨a, { c.t with root := c.sum }⟩)) (.tuple #[])) := fun o2 ln h1 h2 => by
      have hlf := leafD_len p.ts block
      have := tchange o2 tn a p.t leaf ln p.l p.sum (leafD p.ts block).2 hl (hon.trans h1.symm) (by rw [h2]; omega)
      rw [h2] at this
      rw [ec]; unfold putC
      exact this
    rw [putT_2 ep he ec]
    have hset := sset a.sn a.mn c.t.sheet (224 + leaf : Nat) block
    refine fn_intro Tryz.func100 (by kernel_rfl) ?_
    repeat' ((conv => whnf); first
        | refine call_val hla ?_
        | (refine call_g hdown (.grp takeG (.grp takeG (.one takeG))) (fun e A' hq => ?_); obtain ⟨o1, a1, a2, ln, h1, h2⟩ := hq; rw [he, if_pos rfl] at h2; subst h1; subst h2)
        | refine nw_row hz (fun n => ?_)
        | refine nw_z (fun n => ?_)
        | refine force_of ?_
        | refine need (wyC_len _ _) ?_
        | refine need (dgV_len _) ?_
        | refine st_way rfl ?_
        | refine st_dg ?_
        | refine ldN_way ?_
        | refine ldN_dg rfl ?_
        | refine ld1_row (n := tn) treC_1 ?_
        | refine ld1_row (n := tn) treC_s ?_
        | (refine call_go (hleaf _ a1 a2) (.one takeG) (fun o2 b1 b2 => ?_))
        | (refine call_go (hch _ _ (b1.trans a1) b2) (.blk takeC (.grp takeG (.one takeG))) (fun o3 c1 c2 => ?_); unfold treM)
        | refine call_gr hset (.blk takeC (.blk takeC .nil)) ?_
        | refine ld1_lit ?_
        | refine ldN_lit ?_
        | refine nw (fun n => ?_)
        | refine bld ?_
        | refine st_lit rfl ?_
        | refine need (by first | rfl | omega) ?_
        | (refine wr (fun z hz => ?_); (try rw [Int.tdiv_eq_ediv_of_nonneg (by omega)] at hz); rw [w64 (by omega) (by omega)] at hz; subst hz)
        | (refine zv (fun z hz => ?_); (try rw [Int.tmod_eq_emod_of_nonneg (by omega)] at hz); subst hz)
        | (refine ifs (fun h => ?_) (fun h => ?_) <;> (try (exfalso; first | omega | with_reducible contradiction | with_reducible exact h rfl))))
    all_goals (conv => whnf)
    all_goals exact fin_g (A := rgM ⟨g.a, _⟩ ++ (orcM o3 ++ [⟨tn, _⟩, ⟨a.sn, _⟩, ⟨a.mn, _⟩, ⟨a.kn, _⟩])) (.grp takeG (.grp takeG (.blk takeC (.blk takeC (.blk takeC (.blk takeC .nil)))))) ⟨o3, c1.trans (b1.trans a1), c2, rfl, rfl⟩
  · rw [putT_1 ep he]
    obtain ⟨pe, epe⟩ : ∃ z, z = p.e := ⟨_, rfl⟩
    rw [← epe] at he hdown ⊢
    refine fn_intro Tryz.func100 (by kernel_rfl) ?_
    repeat' ((conv => whnf); first
        | refine call_val hla ?_
        | (refine call_g hdown (.grp takeG (.grp takeG (.one takeG))) (fun e A' hq => ?_); obtain ⟨o1, a1, a2, ln, h1, h2⟩ := hq; rw [if_neg he] at h2; subst h1; subst h2)
        | refine nw_row hz (fun n => ?_)
        | refine force_of ?_
        | refine need (wyC_len _ _) ?_
        | refine st_way rfl ?_
        | refine iff' he ?_
        | refine ld1_lit ?_
        | refine ldN_lit ?_
        | refine nw (fun n => ?_)
        | refine bld ?_
        | refine st_lit rfl ?_
        | refine need (by first | rfl | omega) ?_
        | (refine wr (fun z hz => ?_); (try rw [Int.tdiv_eq_ediv_of_nonneg (by omega)] at hz); rw [w64 (by omega) (by omega)] at hz; subst hz)
        | (refine zv (fun z hz => ?_); (try rw [Int.tmod_eq_emod_of_nonneg (by omega)] at hz); subst hz)
        | (refine ifs (fun h => ?_) (fun h => ?_) <;> (try (exfalso; first | omega | with_reducible contradiction | with_reducible exact h rfl))))
    all_goals (conv => whnf)
    all_goals exact fin_g (A := rgM ⟨g.a, _⟩ ++ (orcM o1 ++ treM tn ⟨a, _⟩)) (.grp takeG (.grp takeG (.one takeG))) ⟨o1, a1, a2, rfl, rfl⟩
theorem tclear (g : Rg) (o : Orc) (tn : Nat) (a : TreA) (t : TreP) (leaf : Nat) (hl : leaf < 64) (hrn : a.rn = g.a.rn) (hon : a.on = o.on) (hb : o.ts.length ≤ 1099511610000) :
    Fnc Tryz.prog 138 [pt tn, .int .i64 leaf] (rgM g ++ (orcM o ++ treM tn ⟨a, t⟩))
      (RetO o (putT g.r o.ts t leaf z64).ts (fun o' => rgM ⟨g.a, (putT g.r o.ts t leaf z64).r⟩ ++ (orcM o' ++ treM tn ⟨a, (putT g.r o.ts t leaf z64).t⟩)) (.int .i64 (putT g.r o.ts t leaf z64).e)) := by
  have hp := tput g o tn a t leaf z64 hl z64_size hrn hon hb
  refine fn_intro Tryz.func138 (by kernel_rfl) ?_
  repeat' ((conv => whnf); first
      | refine call_val tbare ?_
      | (refine call_go hp (.grp takeG (.grp takeG (.one takeG))) (fun o3 c1 c2 => ?_))
      | refine ld1_lit ?_
      | refine ldN_lit ?_
      | refine nw (fun n => ?_)
      | refine bld ?_
      | refine st_lit rfl ?_
      | refine need (by first | rfl | omega) ?_
      | (refine wr (fun z hz => ?_); (try rw [Int.tdiv_eq_ediv_of_nonneg (by omega)] at hz); rw [w64 (by omega) (by omega)] at hz; subst hz)
      | (refine zv (fun z hz => ?_); (try rw [Int.tmod_eq_emod_of_nonneg (by omega)] at hz); subst hz)
      | (refine ifs (fun h => ?_) (fun h => ?_) <;> (try (exfalso; first | omega | with_reducible contradiction | with_reducible exact h rfl))))
  all_goals (conv => whnf)
  all_goals exact fin_g (A := rgM ⟨g.a, _⟩ ++ (orcM o3 ++ treM tn ⟨a, _⟩)) (.grp takeG (.grp takeG (.one takeG))) ⟨o3, c1, c2, rfl, rfl⟩
theorem tclear_no (tn : Nat) (leaf : Int) (h : ¬ (0 ≤ leaf ∧ leaf < 64)) : Fnc Tryz.prog 138 [pt tn, .int .i64 leaf] [] (Ret (.int .i64 3) []) := by
  refine fn_intro Tryz.func138 (by kernel_rfl) ?_
  repeat' ((conv => whnf); first
      | refine call_val tbare ?_
      | refine call_val (tput_no tn leaf z64 h) ?_
      | refine ld1_lit ?_
      | refine ldN_lit ?_
      | refine nw (fun n => ?_)
      | refine bld ?_
      | refine st_lit rfl ?_
      | refine need (by first | rfl | omega) ?_
      | (refine wr (fun z hz => ?_); (try rw [Int.tdiv_eq_ediv_of_nonneg (by omega)] at hz); rw [w64 (by omega) (by omega)] at hz; subst hz)
      | (refine zv (fun z hz => ?_); (try rw [Int.tmod_eq_emod_of_nonneg (by omega)] at hz); subst hz)
      | (refine ifs (fun h => ?_) (fun h => ?_) <;> (try (exfalso; first | omega | with_reducible contradiction | with_reducible exact h rfl))))
  all_goals (conv => whnf)
  all_goals exact fin_nil ⟨rfl, rfl⟩
theorem tsheet (tn : Nat) (x : Tre) : Fnc Tryz.prog 159 [pt tn] (treM tn x) (Ret (pt x.a.sn) (treM tn x)) := by
  refine fn_intro Tryz.func159 (by kernel_rfl) ?_
  repeat' ((conv => whnf); first
      | refine ld1_row (n := tn) treC_s ?_
      | refine ld1_lit ?_
      | refine ldN_lit ?_
      | refine nw (fun n => ?_)
      | refine bld ?_
      | refine st_lit rfl ?_
      | refine need (by first | rfl | omega) ?_
      | (refine wr (fun z hz => ?_); (try rw [Int.tdiv_eq_ediv_of_nonneg (by omega)] at hz); rw [w64 (by omega) (by omega)] at hz; subst hz)
      | (refine zv (fun z hz => ?_); (try rw [Int.tmod_eq_emod_of_nonneg (by omega)] at hz); subst hz)
      | (refine ifs (fun h => ?_) (fun h => ?_) <;> (try (exfalso; first | omega | with_reducible contradiction | with_reducible exact h rfl))))
  all_goals (conv => whnf)
  all_goals exact fin_all ⟨rfl, rfl⟩
end Go.Proofs.YtohefdmfnllehaaGreat.Tree
/- Numbers and their bytes: plain arithmetic. -/
namespace Go.Proofs.YtohefdmfnllehaaGreat.Be
open Go Ev
set_option linter.unusedVariables false
set_option linter.unusedSimpArgs false

/-- The last i bytes of n, the greatest first. -/
def bb : Nat → Nat → List UInt8
  | 0, _ => []
  | i + 1, n => UInt8.ofNat (n / 256 ^ i % 256) :: bb i n
@[simp] theorem bb_length : ∀ (i n : Nat), (bb i n).length = i
  | 0, _ => rfl
  | i + 1, n => by simp [bb, bb_length i n]
def putE (n w : Int) : Int := if w < 1 ∨ 8 < w then 2 else if n < 0 ∨ (w < 8 ∧ (256 ^ w.toNat : Int) ≤ n) then 3 else 0
def putS (n w : Int) : ByteArray := if putE n w = 0 then (str (bb w.toNat n.toNat)) else str []

theorem shr_eq {n j : Int} (hn : 0 ≤ n) (h0 : 0 ≤ j) (h7 : j ≤ 7) : n.fdiv (2 ^ min (8 * j).toNat IntKind.i64.bits) = n / (256 ^ j.toNat : Int) := by
  have e1 : min (8 * j).toNat IntKind.i64.bits = 8 * j.toNat := by
    have : IntKind.i64.bits = 64 := rfl
    omega
  rw [e1, Int.pow_mul, Int.fdiv_eq_ediv_of_nonneg _ (by exact Int.le_of_lt (Int.pow_pos (by decide)))]
  rfl
theorem pow_pos' (k : Nat) : (0 : Int) < 256 ^ k := Int.pow_pos (by decide)
theorem pos_div {n : Int} {k : Nat} (hn : 0 ≤ n) : 0 < n / (256 ^ k : Int) ↔ (256 ^ k : Int) ≤ n := by
  constructor
  · intro h
    have := (Int.le_ediv_iff_mul_le (pow_pos' k)).1 (show (1 : Int) ≤ n / 256 ^ k by omega)
    omega
  · intro h
    have := (Int.le_ediv_iff_mul_le (pow_pos' k)).2 (show (1 : Int) * 256 ^ k ≤ n by omega)
    omega
theorem putE_arg {n w : Int} (h : w < 1 ∨ 8 < w) : putE n w = 2 := by unfold putE; rw [if_pos h]
theorem putE_range {n w : Int} (h : ¬ (w < 1 ∨ 8 < w)) (h' : n < 0 ∨ (w < 8 ∧ (256 ^ w.toNat : Int) ≤ n)) : putE n w = 3 := by unfold putE; rw [if_neg h, if_pos h']
theorem putE_ok {n w : Int} (h : ¬ (w < 1 ∨ 8 < w)) (h' : ¬ (n < 0 ∨ (w < 8 ∧ (256 ^ w.toNat : Int) ≤ n))) : putE n w = 0 := by unfold putE; rw [if_neg h, if_neg h']
theorem putS_no {n w : Int} (h : putE n w ≠ 0) : putS n w = str [] := by unfold putS; rw [if_neg h]
theorem putS_ok {n w : Int} (h : putE n w = 0) : putS n w = (str (bb w.toNat n.toNat)) := by unfold putS; rw [if_pos h]
/-- A byte of a number, as a cell. -/
theorem byte_cell (n : Int) (hn : 0 ≤ n) (i : Nat) : IntKind.u8.wrap (n / (256 ^ i : Int)) = ((UInt8.ofNat (n.toNat / 256 ^ i % 256)).toNat : Int) := by
  obtain ⟨m, rfl⟩ := Int.eq_ofNat_of_zero_le hn
  rw [IntKind.wrap_u8]
  have e : ((m : Int) / (256 ^ i : Int)) = ((m / 256 ^ i : Nat) : Int) := by
    rw [Int.natCast_ediv]; congr 1
  rw [e]
  simp only [UInt8.toNat_ofNat', Int.toNat_natCast]
  omega
theorem row_set {w i : Nat} (hi : i < w) (z : Value) (n : Nat) (b : UInt8) : (List.replicate (w - i) z ++ u8s (bb i n)).set (w - 1 - i) (.int .u8 b.toNat) = List.replicate (w - (i + 1)) z ++ u8s (b :: bb i n) := by
  have e : w - i = (w - (i + 1)) + 1 := by omega
  have e2 : w - 1 - i = w - (i + 1) := by omega
  rw [e, List.replicate_succ', e2, List.append_assoc]
  rw [List.set_append_right _ _ (by simp)]
  simp [u8s]

/-! ### what bytes are as a number -/
def bval (l : List UInt8) : Nat := l.foldl (fun n b => n * 256 + b.toNat) 0
theorem bval_snoc (l : List UInt8) (b : UInt8) : bval (l ++ [b]) = bval l * 256 + b.toNat := by simp [bval]
theorem bval_take {l : List UInt8} {i : Nat} (h : i < l.length) : bval (l.take (i + 1)) = bval (l.take i) * 256 + l[i].toNat := by
  rw [List.take_succ_eq_append_getElem h, bval_snoc]
theorem foldl_lt : ∀ (l : List UInt8) (a : Nat), l.foldl (fun n (b : UInt8) => n * 256 + b.toNat) a < (a + 1) * 256 ^ l.length
  | [], a => by simp
  | b :: t, a => by
    have ih := foldl_lt t (a * 256 + b.toNat)
    have hb := b.toNat_lt
    refine Nat.lt_of_lt_of_le ih ?_
    rw [List.length_cons, Nat.pow_succ]
    have h1 : a * 256 + b.toNat + 1 ≤ (a + 1) * 256 := by omega
    have := Nat.mul_le_mul_right (256 ^ t.length) h1
    have e : (a + 1) * (256 ^ t.length * 256) = (a + 1) * 256 * 256 ^ t.length := by
      rw [Nat.mul_assoc, Nat.mul_comm (256 ^ t.length) 256]
    rw [e]; exact this
theorem bval_lt (l : List UInt8) : bval l < 256 ^ l.length := by simpa [bval] using foldl_lt l 0
theorem bval_cons_lt (b : UInt8) (t : List UInt8) : bval (b :: t) < (b.toNat + 1) * 256 ^ t.length := by simpa [bval] using foldl_lt t b.toNat
def getE (s : ByteArray) : Int := if s.size = 0 then 5 else if 8 < s.size then 4 else if s.size = 8 ∧ 127 < byteAt s 0 then 3 else 0
def getN (s : ByteArray) : Int := if getE s = 0 then bval s.data.toList else 0
theorem size_eq (s : ByteArray) : s.size = s.data.toList.length := rfl
theorem byteAt_eq {s : ByteArray} {i : Nat} (h : i < s.size) : byteAt s i = ((s.data.toList[i]'(by rw [size_eq] at h; exact h)).toNat : Int) := by
  have h' : i < s.data.toList.length := by rw [size_eq] at h; exact h
  unfold byteAt
  rw [List.getElem?_eq_getElem h']; rfl
theorem byteAt_bd (s : ByteArray) (i : Nat) : 0 ≤ byteAt s i ∧ byteAt s i ≤ 255 := by
  unfold byteAt
  have := ((s.data.toList[i]?).getD 0).toNat_lt
  omega
/-- While it is read the number has room for one byte more. -/
theorem bval_room {s : ByteArray} (h8 : s.size ≤ 8) (h1 : s.size = 8 → byteAt s 0 ≤ 127) {i : Nat} (hi : i < s.size) : (bval (s.data.toList.take i) : Int) * 256 + 255 ≤ 9223372036854775807 := by
  have hl : s.data.toList.length = s.size := rfl
  by_cases h : s.size = 8
  · have hb := h1 h
    rcases Nat.eq_zero_or_pos i with rfl | hp
    · simp [bval]
    · have h0 : 0 < s.data.toList.length := by omega
      rw [byteAt_eq (by omega)] at hb
      cases hd : s.data.toList with
      | nil => rw [hd] at h0; simp at h0
      | cons b t =>
        have hbt : b.toNat ≤ 127 := by simp only [hd] at hb; simp at hb; omega
        obtain ⟨j, rfl⟩ : ∃ j, i = j + 1 := ⟨i - 1, by omega⟩
        rw [List.take_succ_cons]
        have hlt := bval_cons_lt b (t.take j)
        have hlen : (t.take j).length ≤ 6 := by rw [List.length_take]; omega
        have hp := Nat.pow_le_pow_right (show 0 < 256 by decide) hlen
        have := Nat.mul_le_mul (show b.toNat + 1 ≤ 128 by omega) hp
        omega
  · have hlt := bval_lt (s.data.toList.take i)
    have hlen : (s.data.toList.take i).length ≤ 6 := by rw [List.length_take]; omega
    have hp := Nat.pow_le_pow_right (show 0 < 256 by decide) hlen
    omega
theorem or_byte {a b : Nat} (ha : a * 256 + 255 ≤ 9223372036854775807) (hb : b < 256) :
    ((BitVec.ofInt IntKind.i64.bits ((a : Int) * 256) ||| BitVec.ofInt IntKind.i64.bits (b : Int)).toNat : Int) = (a : Int) * 256 + b := by
  have e1 : (BitVec.ofInt IntKind.i64.bits ((a : Int) * 256)).toNat = a * 256 := by
    have : IntKind.i64.bits = 64 := rfl
    rw [this, BitVec.toNat_ofInt]
    omega
  have e2 : (BitVec.ofInt IntKind.i64.bits (b : Int)).toNat = b := by
    have : IntKind.i64.bits = 64 := rfl
    rw [this, BitVec.toNat_ofInt]
    omega
  rw [BitVec.toNat_or, e1, e2]
  have h := Nat.shiftLeft_add_eq_or_of_lt (show b < 2 ^ 8 by omega) a
  rw [Nat.shiftLeft_eq] at h
  have h' : a * 256 ||| b = a * 256 + b := by simpa using h.symm
  rw [h']
  omega
theorem byte_mod (q : Nat) : IntKind.u8.wrap ((q : Int) % 256) = ((UInt8.ofNat (q % 256)).toNat : Int) := by
  rw [IntKind.wrap_u8]
  simp only [UInt8.toNat_ofNat']
  omega
theorem byte_tmod (q : Nat) : IntKind.u8.wrap ((q : Int).tmod 256) = ((UInt8.ofNat (q % 256)).toNat : Int) := by
  rw [Int.tmod_eq_emod_of_nonneg (Int.natCast_nonneg _)]; exact byte_mod q
theorem or_step {s : ByteArray} {i : Nat} (hi : i < s.size) (hr : (bval (s.data.toList.take i) : Int) * 256 + 255 ≤ 9223372036854775807) :
    IntKind.i64.wrap ((BitVec.ofInt IntKind.i64.bits ((bval (s.data.toList.take i) : Int) * 256) ||| BitVec.ofInt IntKind.i64.bits (byteAt s (Int.toNat (i : Int)))).toNat : Int) = (bval (s.data.toList.take (i + 1)) : Int) := by
  have hl : i < s.data.toList.length := hi
  have hb := UInt8.toNat_lt (s.data.toList[i]'hl)
  rw [Int.toNat_natCast, byteAt_eq hi, or_byte (by omega) hb, w64 (by omega) (by omega), bval_take hl]
  rfl
theorem mul_step {s : ByteArray} {i : Nat} (hi : i < s.size) (hr : (bval (s.data.toList.take i) : Int) * 256 + 255 ≤ 9223372036854775807) :
    IntKind.i64.wrap ((bval (s.data.toList.take i) : Int) * 256 + byteAt s (Int.toNat (i : Int))) = (bval (s.data.toList.take (i + 1)) : Int) := by
  have hl : i < s.data.toList.length := hi
  have hb := UInt8.toNat_lt (s.data.toList[i]'hl)
  rw [Int.toNat_natCast, byteAt_eq hi, w64 (by omega) (by omega), bval_take hl]
  rfl
theorem div_step {q : Int} (hq : q ≤ 9223372036854775807) (i : Nat) : IntKind.i64.wrap (((q.toNat / 256 ^ i : Nat) : Int).tdiv 256) = ((q.toNat / 256 ^ (i + 1) : Nat) : Int) := by
  have e : q.toNat / 256 ^ (i + 1) = q.toNat / 256 ^ i / 256 := by rw [Nat.pow_succ, Nat.div_div_eq_div_mul]
  have h1 : q.toNat / 256 ^ i ≤ q.toNat := Nat.div_le_self _ _
  rw [e, Int.tdiv_eq_ediv_of_nonneg (Int.natCast_nonneg _)]
  generalize q.toNat / 256 ^ i = a at *
  rw [w64 (by omega) (by omega)]
  omega
end Go.Proofs.YtohefdmfnllehaaGreat.Be
/- Plain laws of package be: what two texts are unlike in. -/
namespace Go.Proofs.YtohefdmfnllehaaGreat.Be
open Go Ev
set_option linter.unusedVariables false
set_option linter.unusedSimpArgs false

def xo (a b : ByteArray) : List UInt8 := List.zipWith (fun x y => x ^^^ y) a.data.toList b.data.toList
theorem xo_length {a b : ByteArray} (h : a.size = b.size) : (xo a b).length = a.size := by
  have h1 : a.data.toList.length = a.size := rfl
  have h2 : b.data.toList.length = b.size := rfl
  unfold xo
  rw [List.length_zipWith]; omega
theorem row_next {l : List UInt8} {i N : Nat} {z : Value} {b : Int} (hi : i < l.length) (hN : N = l.length) (hb : b = (l[i].toNat : Int)) :
    (u8s (l.take i) ++ List.replicate (N - i) z).set i (.int .u8 b) = u8s (l.take (i + 1)) ++ List.replicate (N - (i + 1)) z := by
  subst hN hb
  have e : l.length - i = (l.length - (i + 1)) + 1 := by omega
  rw [List.take_succ_eq_append_getElem hi, u8s_append, e, List.replicate_succ, List.set_append_right _ _ (by simp; omega)]
  have e2 : i - (u8s (List.take i l)).length = 0 := by simp; omega
  rw [e2, List.set_cons_zero, List.append_assoc]
  rfl
theorem ofInt_toNat {n : Nat} (h : n < 256) : (BitVec.ofInt 8 (n : Int)).toNat = n := by
  rw [BitVec.toNat_ofInt]; omega
theorem xor_u8 (x y : UInt8) : IntKind.u8.wrap ((BitVec.ofInt IntKind.u8.bits (x.toNat : Int) ^^^ BitVec.ofInt IntKind.u8.bits (y.toNat : Int)).toNat : Int) = ((x ^^^ y).toNat : Int) := by
  have e : (BitVec.ofInt IntKind.u8.bits (x.toNat : Int) ^^^ BitVec.ofInt IntKind.u8.bits (y.toNat : Int)).toNat = (x ^^^ y).toNat := by
    rw [BitVec.toNat_xor, UInt8.toNat_xor]
    show (BitVec.ofInt 8 _).toNat ^^^ (BitVec.ofInt 8 _).toNat = _
    rw [ofInt_toNat x.toNat_lt, ofInt_toNat y.toNat_lt]
  rw [e, IntKind.wrap_u8]
  have := (x ^^^ y).toNat_lt
  omega
theorem xor_at {a b : ByteArray} (h : a.size = b.size) {i : Nat} (hi : i < a.size) (hx : i < (xo a b).length) :
    IntKind.u8.wrap ((BitVec.ofInt IntKind.u8.bits (byteAt a i) ^^^ BitVec.ofInt IntKind.u8.bits (byteAt b i)).toNat : Int) = ((xo a b)[i].toNat : Int) := by
  have h1 : i < a.data.toList.length := hi
  have h2 : i < b.data.toList.length := by rw [h] at hi; exact hi
  rw [byteAt_eq hi, byteAt_eq (h ▸ hi), xor_u8]
  congr 1
  simp [xo]
theorem quo_pow {X k : Nat} (h : X < 256) : IntKind.i64.wrap ((X : Int).tdiv ((2 ^ k : Nat) : Int)) = ((X / 2 ^ k : Nat) : Int) := by
  rw [Int.tdiv_eq_ediv_of_nonneg (Int.natCast_nonneg _), ← Int.natCast_ediv]
  have h1 : X / 2 ^ k ≤ X := Nat.div_le_self _ _
  generalize X / 2 ^ k = y at *
  exact w64 (by omega) (by omega)
theorem rem_two (y : Nat) : (y : Int).tmod 2 = ((y % 2 : Nat) : Int) := by
  rw [Int.tmod_eq_emod_of_nonneg (Int.natCast_nonneg _)]; omega
theorem bit_xor (x y : UInt8) (k : Nat) : (x ^^^ y).toNat / 2 ^ k % 2 = if x.toNat / 2 ^ k % 2 = y.toNat / 2 ^ k % 2 then 0 else 1 := by
  have e : ((x ^^^ y).toNat).testBit k = (x.toNat.testBit k ^^ y.toNat.testBit k) := by rw [UInt8.toNat_xor, Nat.testBit_xor]
  simp only [Nat.testBit_eq_decide_div_mod_eq] at e
  have b1 := Nat.mod_two_eq_zero_or_one (x.toNat / 2 ^ k)
  have b2 := Nat.mod_two_eq_zero_or_one (y.toNat / 2 ^ k)
  have b3 := Nat.mod_two_eq_zero_or_one ((x ^^^ y).toNat / 2 ^ k)
  generalize x.toNat / 2 ^ k % 2 = p at *
  generalize y.toNat / 2 ^ k % 2 = q at *
  generalize (x ^^^ y).toNat / 2 ^ k % 2 = r at *
  rcases b1 with rfl | rfl <;> rcases b2 with rfl | rfl <;> rcases b3 with rfl | rfl <;> simp at e ⊢
theorem bit_next (c k : Nat) : c % 2 ^ (k + 1) = c % 2 ^ k + 2 ^ k * (c / 2 ^ k % 2) := Nat.mod_pow_succ
theorem pow_k {k : Nat} (h : k < 8) : 2 ^ k ≤ 128 := Nat.pow_le_pow_right (n := 2) (by omega) (show k ≤ 7 by omega)
theorem add_pow' {c k : Nat} (h : k < 8) : IntKind.i64.wrap (((c % 2 ^ k : Nat) : Int) + ((2 ^ k : Nat) : Int)) = ((c % 2 ^ k + 2 ^ k : Nat) : Int) := by
  have hp := pow_k h
  have hm := Nat.mod_lt c (Nat.two_pow_pos k)
  generalize c % 2 ^ k = u at *
  generalize 2 ^ k = v at *
  rw [w64 (by omega) (by omega)]; omega
theorem dbl_pow {k : Nat} (h : k < 8) : IntKind.i64.wrap (((2 ^ k : Nat) : Int) * 2) = ((2 ^ (k + 1) : Nat) : Int) := by
  have hp := pow_k h
  rw [Nat.pow_succ]
  generalize 2 ^ k = v at *
  rw [w64 (by omega) (by omega)]; omega
theorem xor_ne {x y : UInt8} {k : Nat} (h : ¬ ((x.toNat / 2 ^ k % 2 : Nat) : Int) = ((y.toNat / 2 ^ k % 2 : Nat) : Int)) : (x ^^^ y).toNat % 2 ^ (k + 1) = (x ^^^ y).toNat % 2 ^ k + 2 ^ k := by
  rw [bit_next, bit_xor, if_neg (fun hc => h (by rw [hc]))]; omega
theorem xor_eq {x y : UInt8} {k : Nat} (h : ((x.toNat / 2 ^ k % 2 : Nat) : Int) = ((y.toNat / 2 ^ k % 2 : Nat) : Int)) : (x ^^^ y).toNat % 2 ^ (k + 1) = (x ^^^ y).toNat % 2 ^ k := by
  rw [bit_next, bit_xor, if_pos (Int.ofNat_inj.1 h)]; omega
theorem byte_end {c : UInt8} {k : Nat} (h : (k : Int) = 8) : IntKind.u8.wrap ((c.toNat % 2 ^ k : Nat) : Int) = (c.toNat : Int) := by
  obtain rfl : k = 8 := by omega
  have := c.toNat_lt
  rw [IntKind.wrap_u8, Nat.mod_eq_of_lt this]
  omega
theorem xo_get {a b : ByteArray} (h : a.size = b.size) {i : Nat} (hi : i < a.size) : ∃ x y : UInt8, byteAt a i = (x.toNat : Int) ∧ byteAt b i = (y.toNat : Int) ∧ (xo a b)[i]? = some (x ^^^ y) := by
  have h1 : i < a.data.toList.length := hi
  have h2 : i < b.data.toList.length := by rw [h] at hi; exact hi
  refine ⟨a.data.toList[i], b.data.toList[i], byteAt_eq hi, byteAt_eq (h ▸ hi), ?_⟩
  unfold xo
  rw [List.getElem?_zipWith, List.getElem?_eq_getElem h1, List.getElem?_eq_getElem h2]
def xorS (a b : ByteArray) : ByteArray := if a.size = b.size then str (xo a b) else str []
def xorE (a b : ByteArray) : Int := if a.size = b.size then 0 else 6
theorem xorS_eq {a b : ByteArray} (h : (a.size : Int) = b.size) : xorS a b = str (xo a b) := if_pos (by omega)
theorem xorS_size {a b : ByteArray} (h : (a.size : Int) = b.size) : (xorS a b).size = a.size := by
  rw [xorS_eq h]
  have := xo_length (a := a) (b := b) (by omega)
  simpa using this
theorem zip_back : ∀ (l m : List UInt8), l.length = m.length → List.zipWith (fun x y => x ^^^ y) (List.zipWith (fun x y => x ^^^ y) l m) m = l
  | [], [], _ => rfl
  | x :: l, y :: m, h => by
    have ih := zip_back l m (by simpa using h)
    simp only [List.zipWith_cons_cons, ih]
    rw [UInt8.xor_assoc, UInt8.xor_self, UInt8.xor_zero]
theorem xorS_back {a b : ByteArray} (h : (a.size : Int) = b.size) : xorS (xorS a b) b = a := by
  have h1 := xorS_size h
  rw [xorS_eq (by omega), xorS_eq h]
  have : xo (str (xo a b)) b = a.data.toList := by
    unfold xo
    rw [str_data]
    exact zip_back _ _ (by show a.size = b.size; omega)
  rw [this, str_eta]
theorem xorE_eq {a b : ByteArray} (h : (a.size : Int) = b.size) : xorE a b = 0 := if_pos (by omega)
theorem xorE_ne {a b : ByteArray} (h : ¬ (a.size : Int) = b.size) : xorE a b = 6 := if_neg (by omega)
theorem xorS_ne {a b : ByteArray} (h : ¬ (a.size : Int) = b.size) : xorS a b = str [] := if_neg (by omega)
end Go.Proofs.YtohefdmfnllehaaGreat.Be
