/- Texts of this proof, merged. -/
import Derived.Test.YtkjamonkohpcnaaGreatAk8
import Derived.Shelf.Strings.OnBuilder
import Derived.Test.YtkjamonkohpcnaaGreatAk7
set_option linter.unusedVariables false
set_option linter.unusedSimpArgs false
set_option linter.unusedSectionVars false
set_option maxRecDepth 100000
set_option maxHeartbeats 16000000
namespace Go.Proofs.YtkjamonkohpcnaaGreat
namespace Rig
open Go Ev Sha Aes
theorem step_some (x : Rg) (f : FuncId) (fs cs : List Value) (A : List Blk) {c : Int} (ht : (tick x.r).2 = some c) :
 Fnc Tryz.prog 156 [pt x.a.rn, .func (.func f) fs.toArray cs.toArray] (rgM x ++ A) (Ret (.int .i64 c) (rgM ⟨x.a, (tick x.r).1⟩ ++ A)) := by
 refine Fnc_mono (step_ x f fs cs A [] .nilFunc (fun h => by rw [ht] at h; cases h)) fun e M hq => ?_
 unfold StepQ at hq
 rw [ht] at hq
 exact hq
theorem step_none (x : Rg) (f : FuncId) (fs cs : List Value) {A A' : List Blk} {v : Value} (ht : (tick x.r).2 = none) (h : Fnc Tryz.prog f (fs ++ cs) (rgM ⟨x.a, (tick x.r).1⟩ ++ A) (Ret v A')) :
 Fnc Tryz.prog 156 [pt x.a.rn, .func (.func f) fs.toArray cs.toArray] (rgM x ++ A) (Ret v A') := by
 refine Fnc_mono (step_ x f fs cs A A' v fun _ => h) fun e M hq => ?_
 unfold StepQ at hq
 rw [ht] at hq
 exact hq
abbrev cP (n p : Nat) : Blk := ⟨n, .cells [pt p] 35⟩
abbrev cI (n : Nat) (z : Int) : Blk := ⟨n, .cells [.int .i64 z] 3⟩
abbrev cS (n : Nat) (s : ByteArray) : Blk := ⟨n, .cells [.string s] 9⟩
theorem rg_open (a : RigA) (r : RigP) (A : List Blk) : rgM ⟨a, r⟩ ++ A = rB a r :: (devM a.a0 r.d0 ++ (devM a.a1 r.d1 ++ A)) := by
 unfold rgM rigM; simp only [List.cons_append, List.append_assoc]
theorem rg_open' (a : RigA) (r : RigP) : rgM ⟨a, r⟩ = rB a r :: (devM a.a0 r.d0 ++ devM a.a1 r.d1) := rfl
theorem tick_ne {r : RigP} {c : Int} (h : (tick r).2 = some c) : c ≠ 0 := by
 unfold tick at h
 split at h
 · cases h; decide
 · split at h
   · cases h; decide
   · split at h
     · cases h; decide
     · cases h
attribute [local irreducible] devM rowD comes tick mayE
theorem read_in (a : RigA) (r : RigP) (d : Int) (i : Nat) (c3 c4 c5 c9 : Nat) (s : ByteArray) (hd : d = 0 ∨ d = 1) (hi : i < 288) :
 Fnc Tryz.prog 233 [pt c3, pt c4, pt c5, pt c9] (rgM ⟨a, r⟩ ++ [cP c3 a.rn, cI c4 d, cI c5 i, cS c9 s]) (Ret (.int .i64 0) (rgM ⟨a, r⟩ ++ [cP c3 a.rn, cI c4 d, cI c5 i, cS c9 (r.dev d i).now])) := by
 rw [rg_open, rg_open]
 rcases hd with rfl | rfl
 all_goals
  refine fn_intro Tryz.func233 (by kernel_rfl) ?_
  repeat' ((conv => whnf); first
   | refine draw_any 2 [(0, true), (2, true), (3, true), (1, true), (4, true), (5, true), (6, true), (7, false), (8, false), (9, true), (10, true), (11, false), (12, true)] [⟨c3, _⟩, ⟨c4, _⟩, ⟨c5, _⟩, ⟨a.rn, _⟩] rfl (by kernel_rfl) (kept_of (.cons takeC (.cons takeC (.cons takeC (.cons takeC .nil)))) ?_) | refine kept_of (.cons takeC (.cons takeC (.cons takeC (.cons takeC .nil)))) ?_ | refine fld1 ?_ | refine fld1_row (n := a.rn) rfl ?_ | refine need (by decide) ?_ | (refine nv (fun z hz => ?_); (try simp at hz); replace hz := hz.symm; subst hz) | refine call_gr (dread a.a0 r.d0 i hi) (.one takeG) ?_ | refine call_gr (dread a.a1 r.d1 i hi) (.one takeG) ?_ | refine st_lit rfl ?_ | refine need (by first | rfl | omega) ?_)
 all_goals (conv => whnf)
 all_goals exact fin_g (A := rB a r :: (devM a.a0 _ ++ (devM a.a1 _ ++ [⟨c3, _⟩, ⟨c4, _⟩, ⟨c5, _⟩, ⟨c9, _⟩]))) (.blk takeC (.grp takeG (.grp takeG (.blk takeC (.blk takeC (.blk takeC (.blk takeC .nil))))))) ⟨rfl, rfl⟩
theorem write_in (a : RigA) (r : RigP) (d : Int) (i : Nat) (c3 c4 c5 c9 : Nat) (s : ByteArray) (hd : d = 0 ∨ d = 1) (hi : i < 288) (hs : s.size = 64) :
 Fnc Tryz.prog 157 [pt c3, pt c4, pt c5, pt c9] (rgM ⟨a, r⟩ ++ [cP c3 a.rn, cI c4 d, cI c5 i, cS c9 s]) (Ret (.int .i64 0) (rgM ⟨a, r.setDev d (writeD (r.dev d) i s)⟩ ++ [cP c3 a.rn, cI c4 d, cI c5 i, cS c9 s])) := by
 rw [rg_open, rg_open]
 rcases hd with rfl | rfl
 all_goals
  refine fn_intro Tryz.func157 (by kernel_rfl) ?_
  repeat' ((conv => whnf); first
   | refine draw_any 1 [(0, true), (2, true), (3, true), (1, true), (4, true), (5, true), (6, true), (7, false), (8, false), (9, true)] [⟨c3, _⟩, ⟨c4, _⟩, ⟨c5, _⟩, ⟨a.rn, _⟩] rfl (by kernel_rfl) (kept_of (.cons takeC (.cons takeC (.cons takeC (.cons takeC .nil)))) ?_) | refine kept_of (.cons takeC (.cons takeC (.cons takeC (.cons takeC .nil)))) ?_ | refine fld1 ?_ | refine fld1_row (n := a.rn) rfl ?_ | refine ld1_lit (n := c9) ?_ | refine need (by decide) ?_ | (refine nv (fun z hz => ?_); (try simp at hz); replace hz := hz.symm; subst hz) | refine call_gr (dwrite a.a0 r.d0 i s hi hs) (.one takeG) ?_ | refine call_gr (dwrite a.a1 r.d1 i s hi hs) (.one takeG) ?_)
 all_goals (conv => whnf)
 · exact fin_g (A := rB a { r with d0 := writeD r.d0 i s } :: (devM a.a0 _ ++ (devM a.a1 _ ++ [⟨c3, _⟩, ⟨c4, _⟩, ⟨c5, _⟩, ⟨c9, _⟩]))) (.blk takeC (.grp takeG (.grp takeG (.blk takeC (.blk takeC (.blk takeC (.blk takeC .nil))))))) ⟨rfl, rfl⟩
 · exact fin_g (A := rB a { r with d1 := writeD r.d1 i s } :: (devM a.a0 _ ++ (devM a.a1 _ ++ [⟨c3, _⟩, ⟨c4, _⟩, ⟨c5, _⟩, ⟨c9, _⟩]))) (.blk takeC (.grp takeG (.grp takeG (.blk takeC (.blk takeC (.blk takeC (.blk takeC .nil))))))) ⟨rfl, rfl⟩
theorem may_no {d i : Int} (h : mayE d i = 0) : (d = 0 ∨ d = 1) ∧ 0 ≤ i ∧ i < 288 := by
 unfold mayE at h
 split at h
 · cases h
 · split at h
   · cases h
   · omega
theorem read_ (x : Rg) (d i : Int) : Fnc Tryz.prog 193 [pt x.a.rn, .int .i64 d, .int .i64 i] (rgM x) (Ret (.tuple #[.string (readR x.r d i).2.1, .int .i64 (readR x.r d i).2.2]) (rgM ⟨x.a, (readR x.r d i).1⟩)) := by
 obtain ⟨a, r⟩ := x
 have hm := may_ a r d i
 by_cases h : mayE d i = 0
 · obtain ⟨hd, h0, h1⟩ := may_no h
   rw [h] at hm
   obtain ⟨k, rfl⟩ : ∃ k : Nat, i = k := ⟨i.toNat, by omega⟩
   cases ht : (tick r).2 with
   | some c =>
     have e : readR r d (k : Int) = ((tick r).1, ByteArray.empty, c) := by unfold readR; rw [if_neg (by rw [h]; simp), ht]
     rw [e]
     refine fn_intro Tryz.func193 (by kernel_rfl) ?_
     repeat' ((conv => whnf); first
      | refine call_val hm ?_ | refine call_gr (step_some ⟨a, r⟩ 233 [] [_, _, _, _] [] ht) (.grp takeG .nil) ?_ | refine ld1_lit ?_ | refine nw (fun n => ?_) | refine st_lit rfl ?_ | refine need (by first | rfl | omega) ?_ | (refine ifs (fun h => ?_) (fun h => ?_) <;> try (exfalso; first | omega | with_reducible first | contradiction | exact h rfl)))
     all_goals (conv => whnf)
     all_goals exact fin_g (A := rgM ⟨a, (tick r).1⟩) (.one takeG) ⟨rfl, rfl⟩
   | none =>
     have e : readR r d (k : Int) = ((tick r).1, ((tick r).1.dev d k).now, 0) := by unfold readR; rw [if_neg (by rw [h]; simp), ht]; rfl
     rw [e]
     refine fn_intro Tryz.func193 (by kernel_rfl) ?_
     repeat' ((conv => whnf); first
      | refine call_val hm ?_ | refine call_gr (step_none ⟨a, r⟩ 233 [] [_, _, _, _] ht (read_in a (tick r).1 d k _ _ _ _ _ hd (by omega))) (.grp takeG (.blk takeC (.blk takeC (.blk takeC (.blk takeC .nil))))) ?_ | refine ld1_lit ?_ | refine nw (fun n => ?_) | refine st_lit rfl ?_ | refine need (by first | rfl | omega) ?_ | (refine ifs (fun h => ?_) (fun h => ?_) <;> try (exfalso; first | omega | with_reducible first | contradiction | exact h rfl)))
     all_goals (conv => whnf)
     all_goals exact fin_g (A := rgM ⟨a, (tick r).1⟩) (.one takeG) ⟨rfl, rfl⟩
 · have e : readR r d i = (r, ByteArray.empty, mayE d i) := by unfold readR; rw [if_pos h]
   rw [e]
   refine fn_intro Tryz.func193 (by kernel_rfl) ?_
   repeat' ((conv => whnf); first
    | refine call_val hm ?_ | refine ld1_lit ?_ | refine nw (fun n => ?_) | (refine ifs (fun h => ?_) (fun h => ?_) <;> try (exfalso; first | omega | with_reducible first | contradiction | exact h rfl)))
   all_goals (conv => whnf)
   all_goals exact fin_g (A := rgM ⟨a, r⟩) (.one takeG) ⟨rfl, rfl⟩
theorem write_ (x : Rg) (d i : Int) (s : ByteArray) : Fnc Tryz.prog 92 [pt x.a.rn, .int .i64 d, .int .i64 i, .string s] (rgM x) (Ret (.int .i64 (writeR x.r d i s).2) (rgM ⟨x.a, (writeR x.r d i s).1⟩)) := by
 obtain ⟨a, r⟩ := x
 have hm := may_ a r d i
 by_cases h : mayE d i = 0
 · obtain ⟨hd, h0, h1⟩ := may_no h
   rw [h] at hm
   obtain ⟨k, rfl⟩ : ∃ k : Nat, i = k := ⟨i.toNat, by omega⟩
   by_cases hs : s.size = 64
   · cases ht : (tick r).2 with
     | some c =>
       have e : writeR r d (k : Int) s = ((tick r).1, c) := by unfold writeR; rw [if_neg (by rw [h]; simp), if_neg (by simp [hs]), ht]
       rw [e]
       refine fn_intro Tryz.func92 (by kernel_rfl) ?_
       repeat' ((conv => whnf); first
        | refine call_val hm ?_ | refine call_gr (step_some ⟨a, r⟩ 157 [] [_, _, _, _] [] ht) (.grp takeG .nil) ?_ | refine ld1_lit ?_ | refine nw (fun n => ?_) | (refine ifs (fun h => ?_) (fun h => ?_) <;> try (exfalso; first | omega | with_reducible first | contradiction | exact h rfl)))
       all_goals (conv => whnf)
       all_goals exact fin_g (A := rgM ⟨a, (tick r).1⟩) (.one takeG) ⟨rfl, rfl⟩
     | none =>
       have e : writeR r d (k : Int) s = ((tick r).1.setDev d (writeD ((tick r).1.dev d) k s), 0) := by unfold writeR; rw [if_neg (by rw [h]; simp), if_neg (by simp [hs]), ht]; rfl
       rw [e]
       refine fn_intro Tryz.func92 (by kernel_rfl) ?_
       repeat' ((conv => whnf); first
        | refine call_val hm ?_ | refine call_gr (step_none ⟨a, r⟩ 157 [] [_, _, _, _] ht (write_in a (tick r).1 d k _ _ _ _ s hd (by omega) hs)) (.grp takeG (.blk takeC (.blk takeC (.blk takeC (.blk takeC .nil))))) ?_ | refine ld1_lit ?_ | refine nw (fun n => ?_) | (refine ifs (fun h => ?_) (fun h => ?_) <;> try (exfalso; first | omega | with_reducible first | contradiction | exact h rfl)))
       all_goals (conv => whnf)
       all_goals exact fin_g (A := rgM ⟨a, _⟩) (.one takeG) ⟨rfl, rfl⟩
   · have e : writeR r d (k : Int) s = (r, 6) := by unfold writeR; rw [if_neg (by rw [h]; simp), if_pos hs]
     rw [e]
     refine fn_intro Tryz.func92 (by kernel_rfl) ?_
     repeat' ((conv => whnf); first
      | refine call_val hm ?_ | refine ld1_lit ?_ | refine nw (fun n => ?_) | (refine ifs (fun h => ?_) (fun h => ?_) <;> try (exfalso; first | omega | with_reducible first | contradiction | exact h rfl)))
     all_goals (conv => whnf)
     all_goals exact fin_g (A := rgM ⟨a, r⟩) (.one takeG) ⟨rfl, rfl⟩
 · have e : writeR r d i s = (r, mayE d i) := by unfold writeR; rw [if_pos h]
   rw [e]
   refine fn_intro Tryz.func92 (by kernel_rfl) ?_
   repeat' ((conv => whnf); first
    | refine call_val hm ?_ | refine ld1_lit ?_ | refine nw (fun n => ?_) | (refine ifs (fun h => ?_) (fun h => ?_) <;> try (exfalso; first | omega | with_reducible first | contradiction | exact h rfl)))
   all_goals (conv => whnf)
   all_goals exact fin_g (A := rgM ⟨a, r⟩) (.one takeG) ⟨rfl, rfl⟩
theorem Fnc_takeR {P : Program} {f : FuncId} {args : List Value} {A A' M R : List Blk} {v : Value} (h : Fnc P f args A (Ret v A')) (ht : TakesG M A R) : Fnc P f args M (Ret v (A' ++ R)) := by
 refine Fnc_mono (Fnc_perm (Fnc_more (B := R) h) ht.perm.symm) fun e M ⟨A', h1, h2, h3⟩ => ?_
 subst h3; subst h1; exact ⟨h2, rfl⟩
theorem dflush_in (a : RigA) (r : RigP) (d : Int) (hd : d = 0 ∨ d = 1) : Fnc Tryz.prog 208 [if d = 0 then pt a.a0.dn else pt a.a1.dn] (rgM ⟨a, r⟩ ++ []) (Ret (.int .i64 0) (rgM ⟨a, r.setDev d (flushD (r.dev d))⟩ ++ [])) := by
 rw [rg_open, rg_open]
 rcases hd with rfl | rfl
 · refine Fnc_drop (Fnc_takeR (dflush a.a0 r.d0) (.one takeG)) fun e M ⟨h1, h2⟩ => ?_
   subst h2
   exact fin_g (A := rB a { r with d0 := flushD r.d0 } :: (devM a.a0 _ ++ (devM a.a1 _ ++ []))) (.blk takeC (.grp takeG (.grp takeG .nil))) ⟨h1, rfl⟩
 · refine Fnc_drop (Fnc_takeR (dflush a.a1 r.d1) (.one takeG)) fun e M ⟨h1, h2⟩ => ?_
   subst h2
   exact fin_g (A := rB a { r with d1 := flushD r.d1 } :: (devM a.a0 _ ++ (devM a.a1 _ ++ []))) (.blk takeC (.grp takeG (.grp takeG .nil))) ⟨h1, rfl⟩
theorem flush_ (x : Rg) (d : Int) : Fnc Tryz.prog 162 [pt x.a.rn, .int .i64 d] (rgM x) (Ret (.int .i64 (flushR x.r d).2) (rgM ⟨x.a, (flushR x.r d).1⟩)) := by
 obtain ⟨a, r⟩ := x
 have hm := may_ a r d 0
 by_cases h : mayE d 0 = 0
 · obtain ⟨hd, h0, h1⟩ := may_no h
   rw [h] at hm
   cases ht : (tick r).2 with
   | some c =>
     have e : flushR r d = ((tick r).1, c) := by unfold flushR; rw [if_neg (by rw [h]; simp), ht]
     rw [e]
     have hc := step_some ⟨a, r⟩ 208 [if d = 0 then pt a.a0.dn else pt a.a1.dn] [] [] ht
     rw [rg_open, rg_open] at hc
     rw [rg_open', rg_open']
     rcases hd with rfl | rfl
     all_goals
      refine fn_intro Tryz.func162 (by kernel_rfl) ?_
      repeat' ((conv => whnf); first
       | refine call_val hm ?_ | refine ld1_row (n := a.rn) rfl ?_ | refine need (by decide) ?_ | (refine nv (fun z hz => ?_); (try simp at hz); replace hz := hz.symm; subst hz) | refine call_gr hc (.blk takeC (.grp takeG (.grp takeG .nil))) ?_ | (refine ifs (fun h => ?_) (fun h => ?_) <;> try (exfalso; first | omega | with_reducible first | contradiction | exact h rfl)))
      all_goals (conv => whnf)
      all_goals exact fin_g (A := rB a (tick r).1 :: (devM a.a0 _ ++ devM a.a1 _)) (.blk takeC (.grp takeG (.one takeG))) ⟨rfl, rfl⟩
   | none =>
     have e : flushR r d = ((tick r).1.setDev d (flushD ((tick r).1.dev d)), 0) := by unfold flushR; rw [if_neg (by rw [h]; simp), ht]
     rw [e]
     have ea : (if d = 0 then pt a.a0.dn else pt a.a1.dn) = (if d = 0 then pt a.a0.dn else pt a.a1.dn) := rfl
     have hc := step_none ⟨a, r⟩ 208 [if d = 0 then pt a.a0.dn else pt a.a1.dn] [] ht (dflush_in a (tick r).1 d hd)
     rw [rg_open, rg_open] at hc
     rw [rg_open', rg_open']
     rcases hd with rfl | rfl
     all_goals
      refine fn_intro Tryz.func162 (by kernel_rfl) ?_
      repeat' ((conv => whnf); first
       | refine call_val hm ?_ | refine ld1_row (n := a.rn) rfl ?_ | refine need (by decide) ?_ | (refine nv (fun z hz => ?_); (try simp at hz); replace hz := hz.symm; subst hz) | refine call_gr hc (.blk takeC (.grp takeG (.grp takeG .nil))) ?_ | (refine ifs (fun h => ?_) (fun h => ?_) <;> try (exfalso; first | omega | with_reducible first | contradiction | exact h rfl)))
      all_goals (conv => whnf)
      all_goals exact fin_g (A := rB a _ :: (devM a.a0 _ ++ devM a.a1 _)) (.blk takeC (.grp takeG (.one takeG))) ⟨rfl, rfl⟩
 · have e : flushR r d = (r, mayE d 0) := by unfold flushR; rw [if_pos h]
   rw [e]
   refine fn_intro Tryz.func162 (by kernel_rfl) ?_
   repeat' ((conv => whnf); first
    | refine call_val hm ?_ | (refine ifs (fun h => ?_) (fun h => ?_) <;> try (exfalso; first | omega | with_reducible first | contradiction | exact h rfl)))
   all_goals (conv => whnf)
   all_goals exact fin_g (A := rgM ⟨a, r⟩) (.one takeG) ⟨rfl, rfl⟩
theorem reg_in (a : RigA) (r : RigP) : Fnc Tryz.prog 229 [] (rgM ⟨a, r⟩ ++ []) (Ret (.int .i64 0) (rgM ⟨a, r⟩ ++ [])) := by
 refine fn_intro Tryz.func229 (by kernel_rfl) ?_
 repeat' ((conv => whnf); first
  | fail)
 all_goals (conv => whnf)
 all_goals exact fin_all ⟨rfl, rfl⟩
theorem reg_ (x : Rg) : Fnc Tryz.prog 191 [pt x.a.rn] (rgM x) (Ret (.tuple #[.string (regR x.r).2.1, .int .i64 (regR x.r).2.2]) (rgM ⟨x.a, (regR x.r).1⟩)) := by
 obtain ⟨a, r⟩ := x
 cases ht : (tick r).2 with
 | some c =>
   have hc := step_some ⟨a, r⟩ 229 [] [] [] ht
   have e : regR r = ((tick r).1, ByteArray.empty, c) := by unfold regR; rw [ht]
   rw [e]
   have hne : c ≠ 0 := tick_ne ht
   refine fn_intro Tryz.func191 (by kernel_rfl) ?_
   repeat' ((conv => whnf); first
    | refine call_gr hc (.grp takeG .nil) ?_ | (refine ifs (fun h => ?_) (fun h => ?_) <;> try (exfalso; first | omega | with_reducible first | contradiction | exact h rfl)))
   all_goals (conv => whnf)
   all_goals exact fin_g (A := rgM ⟨a, _⟩) (.one takeG) ⟨rfl, rfl⟩
 | none =>
   have hc := step_none ⟨a, r⟩ 229 [] [] ht (reg_in a (tick r).1)
   have e : regR r = ((tick r).1, (tick r).1.reg, 0) := by unfold regR; rw [ht]
   rw [e]
   rw [rg_open, rg_open] at hc
   rw [rg_open', rg_open']
   refine fn_intro Tryz.func191 (by kernel_rfl) ?_
   repeat' ((conv => whnf); first
    | refine call_gr hc (.blk takeC (.grp takeG (.grp takeG .nil))) ?_ | refine ld1_row (n := a.rn) rfl ?_ | (refine ifs (fun h => ?_) (fun h => ?_) <;> try (exfalso; first | omega | with_reducible first | contradiction | exact h rfl)))
   all_goals (conv => whnf)
   all_goals exact fin_g (A := rB a _ :: (devM a.a0 _ ++ devM a.a1 _)) (.blk takeC (.grp takeG (.one takeG))) ⟨rfl, rfl⟩
theorem setreg_in (a : RigA) (r : RigP) (c3 c9 : Nat) (s : ByteArray) : Fnc Tryz.prog 209 [pt c9, pt c3] (rgM ⟨a, r⟩ ++ [cP c3 a.rn, cS c9 s]) (Ret (.int .i64 0) (rgM ⟨a, { r with reg := s }⟩ ++ [cP c3 a.rn, cS c9 s])) := by
 rw [rg_open, rg_open]
 refine fn_intro Tryz.func209 (by kernel_rfl) ?_
 repeat' ((conv => whnf); first
  | refine st_reg (a := a) ?_ | refine ld1_lit ?_ | refine need (by first | rfl | omega) ?_)
 all_goals (conv => whnf)
 all_goals exact fin_all ⟨rfl, rfl⟩
theorem setreg_ (x : Rg) (s : ByteArray) : Fnc Tryz.prog 164 [pt x.a.rn, .string s] (rgM x) (Ret (.int .i64 (setRegR x.r s).2) (rgM ⟨x.a, (setRegR x.r s).1⟩)) := by
 obtain ⟨a, r⟩ := x
 by_cases hs : s.size = 96
 · cases ht : (tick r).2 with
   | some c =>
     have e : setRegR r s = ((tick r).1, c) := by unfold setRegR; rw [if_neg (by simp [hs]), ht]
     rw [e]
     refine fn_intro Tryz.func164 (by kernel_rfl) ?_
     repeat' ((conv => whnf); first
      | refine call_gr (step_some ⟨a, r⟩ 209 [] [_, _] [] ht) (.grp takeG .nil) ?_ | refine ld1_lit ?_ | refine nw (fun n => ?_) | (refine ifs (fun h => ?_) (fun h => ?_) <;> try (exfalso; first | omega | with_reducible first | contradiction | exact h rfl)))
     all_goals (conv => whnf)
     all_goals exact fin_g (A := rgM ⟨a, _⟩) (.one takeG) ⟨rfl, rfl⟩
   | none =>
     have e : setRegR r s = ({ (tick r).1 with reg := s }, 0) := by unfold setRegR; rw [if_neg (by simp [hs]), ht]
     rw [e]
     refine fn_intro Tryz.func164 (by kernel_rfl) ?_
     repeat' ((conv => whnf); first
      | refine call_gr (step_none ⟨a, r⟩ 209 [] [_, _] ht (setreg_in a (tick r).1 _ _ s)) (.grp takeG (.blk takeC (.blk takeC .nil))) ?_ | refine ld1_lit ?_ | refine nw (fun n => ?_) | (refine ifs (fun h => ?_) (fun h => ?_) <;> try (exfalso; first | omega | with_reducible first | contradiction | exact h rfl)))
     all_goals (conv => whnf)
     all_goals exact fin_g (A := rgM ⟨a, _⟩) (.one takeG) ⟨rfl, rfl⟩
 · have e : setRegR r s = (r, 6) := by unfold setRegR; rw [if_pos hs]
   rw [e]
   refine fn_intro Tryz.func164 (by kernel_rfl) ?_
   repeat' ((conv => whnf); first
    | refine ld1_lit ?_ | refine nw (fun n => ?_) | (refine ifs (fun h => ?_) (fun h => ?_) <;> try (exfalso; first | omega | with_reducible first | contradiction | exact h rfl)))
   all_goals (conv => whnf)
   all_goals exact fin_g (A := rgM ⟨a, r⟩) (.one takeG) ⟨rfl, rfl⟩
end Rig
namespace Join
open Go Go.Shelf Go.Proofs Ev
def lays156_ren : Go.Shelf.Ren := ⟨fun | 156 => 244 | 165 => 271 | 166 => 272 | 169 => 273 | 240 => 285 | 241 => 286 | 276 => 288 | 277 => 289 | n => n, fun | 31 => 233 | 9 => 9 | 3 => 3 | 4 => 4 | 0 => 0 | 20 => 20 | 72 => 338 | 76 => 341 | 70 => 336 | 37 => 142 | 75 => 340 | 127 => 353 | 164 => 357 | 5 => 5 | 80 => 67 | n => n, fun | n => n⟩
theorem lays156 : Go.Proofs.Lays.n156 Tryz.prog lays156_ren := {
 mixed := by kernel_rfl
 f156 := Tryz.func244.trans (congrArg some (by kernel_rfl))
 f165 := Tryz.func271.trans (congrArg some (by kernel_rfl))
 f166 := Tryz.func272.trans (congrArg some (by kernel_rfl))
 f169 := Tryz.func273.trans (congrArg some (by kernel_rfl))
 f240 := Tryz.func285.trans (congrArg some (by kernel_rfl))
 f241 := Tryz.func286.trans (congrArg some (by kernel_rfl))
 f276 := Tryz.func288.trans (congrArg some (by kernel_rfl))
 f277 := Tryz.func289.trans (congrArg some (by kernel_rfl))
 t0 := Tryz.underlying0
 a0 := Tryz.isAgg0
 z0 := Tryz.sizeOf0
 v0 := Tryz.zeroValue0
 t3 := Tryz.underlying3
 a3 := Tryz.isAgg3
 z3 := Tryz.sizeOf3
 v3 := Tryz.zeroValue3
 t4 := Tryz.underlying4
 a4 := Tryz.isAgg4
 z4 := Tryz.sizeOf4
 v4 := Tryz.zeroValue4
 t9 := Tryz.underlying9
 a9 := Tryz.isAgg9
 z9 := Tryz.sizeOf9
 v9 := Tryz.zeroValue9
 t20 := Tryz.underlying20
 a20 := Tryz.isAgg20
 z20 := Tryz.sizeOf20
 v20 := Tryz.zeroValue20
 t31 := Tryz.underlying233
 a31 := Tryz.isAgg233
 z31 := Tryz.sizeOf233
 v31 := Tryz.zeroValue233
 t37 := Tryz.underlying142
 a37 := Tryz.isAgg142
 z37 := Tryz.sizeOf142
 v37 := Tryz.zeroValue142
 t70 := Tryz.underlying336
 a70 := Tryz.isAgg336
 z70 := Tryz.sizeOf336
 v70 := Tryz.zeroValue336
 t72 := Tryz.underlying338
 a72 := Tryz.isAgg338
 z72 := Tryz.sizeOf338
 v72 := Tryz.zeroValue338
 t75 := Tryz.underlying340
 a75 := Tryz.isAgg340
 z75 := Tryz.sizeOf340
 v75 := Tryz.zeroValue340
 t76 := Tryz.underlying341
 a76 := Tryz.isAgg341
 z76 := Tryz.sizeOf341
 v76 := Tryz.zeroValue341
 t127 := Tryz.underlying353
 a127 := Tryz.isAgg353
 z127 := Tryz.sizeOf353
 v127 := Tryz.zeroValue353
 t164 := Tryz.underlying357
 a164 := Tryz.isAgg357
 z164 := Tryz.sizeOf357
 v164 := Tryz.zeroValue357
}
theorem Builder_Extra_156 : Builder.Extra Tryz.prog lays156_ren := {
 sizeBuilder := by kernel_rfl
 liesBuilder := by kernel_rfl
 t5 := Tryz.underlying5
 a5 := Tryz.isAgg5
 z5 := Tryz.sizeOf5
 v5 := Tryz.zeroValue5
 infoByte := by kernel_rfl
 cellsByte := by kernel_rfl
 sizeByte := by kernel_rfl
 neB5 := by decide }
theorem below_st {A : List Blk} {w w' : World} (hm : Mem w A) (h : RowKit.Below w.heap.size w w') : St A w w' A := by
 refine ⟨h.os, h.tape, h.output, h.size, fun k hk _ => h.block k hk, fun b hb => ?_, fun b hb => .inl ⟨b, hb, rfl, id⟩, hm.2⟩
 have hb' := hm.1 b hb
 exact hb'.same (h.block _ hb'.lt)
theorem join4_eq (a b c d : ByteArray) : (⟨(Lib.join ([a, b, c, d].map (·.data.toList)) ([] : List UInt8)).toArray⟩ : ByteArray) = a ++ b ++ c ++ d := by
 apply ByteArray.ext
 simp [Lib.join_cons, Lib.joinTail, ByteArray.data_append]
theorem join4 (bk : Nat) (T : TypeId) (a b c d : ByteArray) (hs : a.size + b.size + c.size + d.size ≤ 1000) :
 Fnc Tryz.prog 244 [.slice (some ⟨bk, 0, none⟩) 4 4, .string ⟨#[]⟩] [⟨bk, .cells [.string a, .string b, .string c, .string d] T⟩] (Ret (.string (a ++ b ++ c ++ d)) [⟨bk, .cells [.string a, .string b, .string c, .string d] T⟩]) := by
 delta Fnc
 refine ⟨by kernel_rfl, fun w hm => ?_⟩
 have hh := hm.1 _ List.mem_cons_self
 have hlt := hh.lt
 refine (Any.strings_Join lays156 Builder_Extra_156 bk 0 4 [a, b, c, d] ⟨#[]⟩ w ?_ hlt (by simp) (by simp) ?_).mono fun e w' ⟨h1, h2⟩ => ⟨_, below_st hm h2, ?_, rfl⟩
 · intro j x hj
   simp only [Blk.holds] at hh
   have hj4 : j < 4 := by
    have := (List.getElem?_eq_some_iff.1 hj).1
    simpa using this
   have : j = 0 ∨ j = 1 ∨ j = 2 ∨ j = 3 := by omega
   rcases this with rfl | rfl | rfl | rfl <;> (simp at hj; subst hj; simp [World.cell?, hh])
 · have e := join4_eq a b c d
   have : (Lib.join ([a, b, c, d].map (·.data.toList)) (⟨#[]⟩ : ByteArray).data.toList).length = a.size + b.size + c.size + d.size := by
    have h2 := congrArg ByteArray.size e
    simp only [ByteArray.size_append] at h2
    rw [← h2]
    show _ = (Lib.join _ _).toArray.size
    simp
   rw [this]; omega
 · rw [h1]
   exact congrArg (fun s => Ending.returned (.string s)) (join4_eq a b c d)
end Join
namespace Orc
open Go Ev Sha Aes
abbrev dV (a : Nat → UInt8) : List Value := [.int .u8 ((a 0).toNat : Int), .int .u8 ((a 1).toNat : Int), .int .u8 ((a 2).toNat : Int), .int .u8 ((a 3).toNat : Int), .int .u8 ((a 4).toNat : Int), .int .u8 ((a 5).toNat : Int), .int .u8 ((a 6).toNat : Int), .int .u8 ((a 7).toNat : Int), .int .u8 ((a 8).toNat : Int), .int .u8 ((a 9).toNat : Int), .int .u8 ((a 10).toNat : Int), .int .u8 ((a 11).toNat : Int), .int .u8 ((a 12).toNat : Int), .int .u8 ((a 13).toNat : Int), .int .u8 ((a 14).toNat : Int), .int .u8 ((a 15).toNat : Int), .int .u8 ((a 16).toNat : Int), .int .u8 ((a 17).toNat : Int), .int .u8 ((a 18).toNat : Int), .int .u8 ((a 19).toNat : Int), .int .u8 ((a 20).toNat : Int), .int .u8 ((a 21).toNat : Int), .int .u8 ((a 22).toNat : Int), .int .u8 ((a 23).toNat : Int), .int .u8 ((a 24).toNat : Int), .int .u8 ((a 25).toNat : Int), .int .u8 ((a 26).toNat : Int), .int .u8 ((a 27).toNat : Int), .int .u8 ((a 28).toNat : Int), .int .u8 ((a 29).toNat : Int), .int .u8 ((a 30).toNat : Int), .int .u8 ((a 31).toNat : Int)]
theorem cells_row {M : List Blk} {n off : Nat} {cs : List Value} {t : TypeId} {l : List Value} [hk : Look M n (.row cs t)] (hl : (cs.drop off).take l.length = l) : ∀ (A : List Blk) (w0 w : World), St A w0 w M → ∀ (j : Nat) (v : Value), l[j]? = some v → w.cell? ⟨n, off + j, none⟩ = some v :=
 fun A w0 w st => row_at (st.has _ hk.mem) hl
theorem equal_map {P : Program} {t kt et : TypeId} (hu : P.underlying t = some (.map kt et)) (r : Nat) (w : World) : (Op.equal t (.map (some r)) (.map none)).run P w = .ok false w := by
 unfold Op.equal
 rw [show Op.maxDepth = (Op.maxDepth - 1) + 1 from rfl]
 unfold Op.equalIn
 simp only [Sem.run_bind, run_underlying hu, Result.andThen_ok]
 rfl
theorem eq_map_nil {P : Program} {M : List Blk} {k : Kv} {pan : Kp} {tmps : Array Value} {ds : List Deferred} {o : Oper} {t kt et t' : TypeId} {x y : Operand} {r : Nat} (ho : o.op = .binOp .eql t x y t') (ht : P.underlying t = some (.map kt et))
 (hx : Act.eval ⟨tmps, ds⟩ x = .map (some r)) (hy : Act.eval ⟨tmps, ds⟩ y = .map none) (hk : k (.bool false) M) : Runs P (execOp (Act.eval ⟨tmps, ds⟩) o) M k pan := by
 obtain ⟨dst, op, type, pos, after, guard⟩ := o
 simp only at ho
 subst ho
 have hg : ∀ w, (eqGuard .eql t x y (.map (some r)) (.map none)).run P w = .ok () w := fun w => by unfold eqGuard; rfl
 have hb : ∀ w, (Go.binOp .eql t (.map (some r)) (.map none)).run P w = .ok (.bool false) w := fun w => by
  simp only [Go.binOp, Sem.run_bind, equal_map ht, Result.andThen_ok, Sem.run_pure]
 exact Runs.val (fun w => by simp [execOp, hx, hy, hg, hb]) hk
open Classical in
noncomputable def addT (ts : List ByteArray) (s : ByteArray) : List ByteArray := if s ∈ ts then ts else ts ++ [s]
def inC (s : ByteArray) : List Value := .string s :: (dgV (D s) ++ [])
def rowT (ts : List ByteArray) : List Value := (ts.map inC).flatten
def mapT (ts : List ByteArray) : List (ByteArray × Value) := ts.map fun s => (s, .bool true)
theorem inC_len (s : ByteArray) : (inC s).length = 33 := by unfold inC; rw [List.length_cons, List.append_nil, dgV_len]
theorem inC_one (s : ByteArray) : ∀ u ∈ inC s, u.oneCell' = true := by
 intro u hu
 unfold inC at hu
 rw [List.append_nil] at hu
 rcases List.mem_cons.1 hu with rfl | hu
 · rfl
 · exact dgV_one _ u hu
theorem st_z {P : Program} {M : List Blk} {n : Nat} {t : TypeId} {a : Nat → UInt8} {f : Blk → List Blk} {K : List Blk → Prop} [z : Zip M n (.row (dgV a) t) f] (hk : K (f ⟨n, .row (dgV zD) t⟩)) : StN P M n 0 (List.replicate 32 (Value.int .u8 0)) K := by
 rw [← dgV_z]; exact st_dg hk
theorem rowT_app (ts : List ByteArray) (s : ByteArray) : rowT (ts ++ [s]) = rowT ts ++ inC s := by unfold rowT; simp
theorem rowT_len : ∀ ts : List ByteArray, (rowT ts).length = ts.length * 33
 | [] => rfl
 | s :: ts => by
   have : rowT (s :: ts) = inC s ++ rowT ts := rfl
   rw [this, List.length_append, inC_len, rowT_len ts, List.length_cons]; omega
theorem mapT_ix (s : ByteArray) : ∀ (ts : List ByteArray) (i : Nat), (s ∈ ts → ∃ j, findIx s (mapT ts) i = some (j, .bool true)) ∧ (s ∉ ts → findIx s (mapT ts) i = none)
 | [], i => ⟨fun h => (by cases h), fun _ => rfl⟩
 | a :: ts, i => by
   have ih := mapT_ix s ts (i + 1)
   have e : findIx s (mapT (a :: ts)) i = if s = a then some (i, .bool true) else findIx s (mapT ts) (i + 1) := rfl
   rw [e]
   by_cases h : s = a
   · rw [if_pos h]; exact ⟨fun _ => ⟨i, rfl⟩, fun hn => absurd (by rw [h]; exact List.mem_cons_self) hn⟩
   · rw [if_neg h]
     refine ⟨fun hm => ih.1 ?_, fun hn => ih.2 fun hm => hn (List.mem_cons_of_mem _ hm)⟩
     rcases List.mem_cons.1 hm with hm | hm
     · exact absurd hm h
     · exact hm
theorem getT_in {s : ByteArray} {ts : List ByteArray} (h : s ∈ ts) : getM (mapT ts) s = some (.bool true) := by
 obtain ⟨j, hj⟩ := (mapT_ix s ts 0).1 h
 unfold getM; rw [hj]; rfl
theorem getT_out {s : ByteArray} {ts : List ByteArray} (h : s ∉ ts) : getM (mapT ts) s = none := by
 unfold getM; rw [(mapT_ix s ts 0).2 h]; rfl
theorem setT_out {s : ByteArray} {ts : List ByteArray} (h : s ∉ ts) : setM (mapT ts) s (.bool true) = mapT (ts ++ [s]) := by
 rw [findIx_none ((mapT_ix s ts 0).2 h)]; unfold mapT; simp
structure Orc where
 on : Nat
 mn : Nat
 ts : List ByteArray
 S : Own
 ok : S.ok 33 ts.length (rowT ts)
def orcM (x : Orc) : List Blk := ⟨x.on, .cells [x.S.val x.ts.length, .map (some x.mn)] 162⟩ :: ⟨x.mn, .obj (mapK kS (mapT x.ts))⟩ :: x.S.blk 335 (rowT x.ts)
def RetO (o : Orc) (ts : List ByteArray) (A' : Orc → List Blk) (v : Value) : Ending → List Blk → Prop := fun e A => ∃ o' : Orc, o'.on = o.on ∧ o'.ts = ts ∧ A = A' o' ∧ e = .returned v
theorem call_go {P : Program} {f : FuncId} {args : List Value} {A M R : List Blk} {k : Kv} {pan : Kp} {o : Orc} {ts : List ByteArray} {A' : Orc → List Blk} {v : Value} (h : Fnc P f args A (RetO o ts A' v)) (ht : TakesG M A R)
 (hk : ∀ o' : Orc, o'.on = o.on → o'.ts = ts → k v (A' o' ++ R)) : Cl P f args M k pan :=
 call_g h ht fun e A'' ⟨o', h1, h2, h3, h4⟩ => by subst h3; subst h4; exact hk o' h1 h2
attribute [local irreducible] dgV rowT mapT D convert Builtin.copy_ Builtin.append_ Instr.makeSlice Instr.lookup Instr.mapUpdate Instr.makeMap mapK
theorem onew : Fnc Tryz.prog 41 [] [] (fun e A => ∃ o : Orc, o.ts = [] ∧ e = .returned (pt o.on) ∧ A = orcM o) := by
 refine fn_intro Tryz.func41 (by kernel_rfl) ?_
 repeat' ((conv => whnf); first
  | refine map_make kS (fun r => ?_) | refine nw (fun n => ?_) | refine bld ?_)
 all_goals (conv => whnf)
 exact fin_all ⟨⟨n, r, [], .nil, ⟨by unfold rowT; rfl, rfl⟩⟩, rfl, rfl, by unfold orcM mapT; rfl⟩
theorem osum (o : Orc) (s : ByteArray) (hs : s.size ≤ 1152921504606846976) (hb : o.ts.length ≤ 1099511627776) :
 Fnc Tryz.prog 243 [pt o.on, .string s] (orcM o) (RetO o (addT o.ts s) orcM (.agg (dgV (D s)).toArray)) := by
 obtain ⟨on, mn, ts, S, hok⟩ := o
 unfold orcM
 by_cases hin : s ∈ ts
 · have hg := getT_in hin
   have ha : addT ts s = ts := by unfold addT; rw [if_pos hin]
   refine fn_intro Tryz.func243 (by kernel_rfl) ?_
   repeat' ((conv => whnf); first
    | refine nw_z (fun n => ?_) | refine call_val (sum_ s hs) ?_ | refine force_of ?_ | refine need (dgV_len _) ?_ | refine st_dg ?_ | refine ldN_dg rfl ?_ | refine eq_map_nil rfl rfl rfl rfl ?_ | (refine map_look (keyS rfl) rfl rfl rfl ?_; rw [hg]) | refine ld1_lit ?_)
   all_goals (conv => whnf)
   all_goals exact fin_drop (fin_drop (fin_all ⟨⟨on, mn, ts, S, hok⟩, rfl, by rw [ha], rfl, rfl⟩))
 · have hg := getT_out hin
   have ha : addT ts s = ts ++ [s] := by unfold addT; rw [if_neg hin]
   have hset := setT_out hin
   refine fn_intro Tryz.func243 (by kernel_rfl) ?_
   repeat' ((conv => whnf); first
    | refine nw_z (fun n => ?_) | refine call_val (sum_ s hs) ?_ | refine force_of ?_ | refine need (dgV_len _) ?_ | refine st_dg ?_ | refine eq_map_nil rfl rfl rfl rfl ?_ | (refine map_look (keyS rfl) rfl rfl rfl ?_; rw [hg]) | (refine map_put (keyS rfl) rfl ?_; rw [hset]) | refine ld1_lit ?_)
   all_goals (conv => whnf)
   repeat' ((conv => whnf); first
    | refine draw_tree 9 (.take 0 (.take 1 (.take 2 (.take 3 (.take 5 (.two 4 6 (.only 6 (.take 7 (.only 8 (.only 9 (.take 10 (.take 11 (.only 12 .nil))))))) (.take 7 (.two 4 8 (.only 8 (.only 9 (.take 10 (.take 11 (.only 12 .nil))))) (.only 4 (.only 9 (.take 10 (.take 11 (.only 12 .nil))))))))))))) [] rfl (by kernel_rfl) ?_ | refine And.intro ?_ ?_ | refine kept_nil ?_ | (refine bld_cons (vs := [.string s]) rfl rfl rfl (by decide) rfl ?_; refine bld_cons (vs := dgV (D s)) (cs1 := inC s) rfl rfl (dgV_len _) (Nat.le_of_ble_eq_true rfl) rfl ?_; refine bld_nil ?_) | (refine bld_cons (vs := inC s) (cs1 := inC s) rfl rfl (inC_len s) (by decide) (List.append_nil (inC s)) ?_; refine bld_nil ?_) | refine nw_row (cs' := inC s) rfl (fun n => ?_) | refine force_of ?_ | refine need (dgV_len _) ?_ | refine st_dg ?_ | refine ldN_dg rfl ?_ | refine app_wide (S := S) (n := ts.length) (m := 1) (sz := 33) (e := 335) (xs := rowT ts) (news := inC s) rfl rfl rfl rfl rfl hok (inC_len s) (by omega) (inC_one s) (by show (ts.length + 1) * 48 ≤ _; have hb2 : ts.length ≤ 1099511627776 := hb; omega) (by have hb2 : ts.length ≤ 1099511627776 := hb; omega) (cells_row (by simp)) (fun S' hS' => ?_) | refine ld1_lit ?_ | refine st_lit rfl ?_ | refine need (by first | rfl | omega) ?_)
   all_goals (conv => whnf)
   all_goals
    have hok' : S'.ok 33 (ts ++ [s]).length (rowT (ts ++ [s])) := by rw [rowT_app, List.length_append]; exact hS'
    exact fin_drop (fin_drop (fin_drop (fin_all ⟨⟨on, mn, ts ++ [s], S', hok'⟩, rfl, by rw [ha], by dsimp only; rw [rowT_app, List.length_append]; rfl, rfl⟩)))
end Orc
namespace Node
open Go Ev Sha Aes Orc
abbrev Dg := Nat → UInt8
def dl (a : Dg) : List UInt8 := (List.range 32).map a
theorem dl_len (a : Dg) : (dl a).length = 32 := by unfold dl; simp
theorem dgV_u8 (a : Dg) : dgV a = u8s (dl a) := by unfold dgV u8s dl; rw [List.map_map]; rfl
theorem dgV_inj {a b : Dg} : dgV a = dgV b ↔ dl a = dl b := by
 rw [dgV_u8, dgV_u8]
 constructor
 · intro h
   have := congrArg (List.map fun v => match v with | .int .u8 z => UInt8.ofNat z.toNat | _ => 0) h
   unfold u8s at this
   rw [List.map_map, List.map_map] at this
   have e : ∀ l : List UInt8, List.map ((fun v => match v with | Value.int .u8 z => UInt8.ofNat z.toNat | _ => 0) ∘ fun (b : UInt8) => Value.int .u8 (b.toNat : Int)) l = l := by
    intro l
    conv => rhs; rw [← List.map_id l]
    refine List.map_congr_left fun b _ => ?_
    show UInt8.ofNat ((b.toNat : Int)).toNat = b
    simp
   rw [e, e] at this
   exact this
 · intro h; rw [h]
def p0 (s : ByteArray) : ByteArray := ⟨#[0]⟩ ++ s
def p1 (s : ByteArray) : ByteArray := ⟨#[1]⟩ ++ s
noncomputable def leafD (ts : List ByteArray) (s : ByteArray) : List ByteArray × Dg := if s.size = 64 then (addT ts (p0 s), D (p0 s)) else (ts, zD)
noncomputable def nodeD (ts : List ByteArray) (s : ByteArray) : List ByteArray × Dg := if s.size = 64 then (addT ts (p1 s), D (p1 s)) else (ts, zD)
def sizeE (s : ByteArray) : Int := if s.size = 64 then 0 else 6
def halfD (s : ByteArray) (side : Nat) : Dg := fun j => (s.data.toList[32 * side + j]?).getD 0
def splitD (s : ByteArray) (side : Nat) : Dg := if s.size = 64 then halfD s side else zD
def withS (s : ByteArray) (side : Nat) (d : Dg) : ByteArray := if s.size = 64 then (if side = 0 then str (dl d) ++ s.extract 32 64 else s.extract 0 32 ++ str (dl d)) else ByteArray.empty
attribute [local irreducible] dgV D convert Builtin.copy_ Builtin.append_
theorem nsum (o : Orc) (s : ByteArray) (hs : s.size ≤ 1152921504606846976) (hb : o.ts.length ≤ 1099511627776) :
 Fnc Tryz.prog 214 [pt o.on, .string s] (orcM o) (RetO o (addT o.ts s) orcM (.agg (dgV (D s)).toArray)) := by
 refine fn_intro Tryz.func214 (by kernel_rfl) ?_
 repeat' ((conv => whnf); first
  | refine nw_z (fun n => ?_) | (refine call_go (osum o s hs hb) (.one takeG) (fun o' h1 h2 => ?_)) | refine force_of ?_ | refine need (dgV_len _) ?_ | refine st_dg ?_ | refine ldN_dg rfl ?_)
 all_goals (conv => whnf)
 all_goals exact fin_g (A := orcM o') (.one takeG) ⟨o', h1, h2, rfl, rfl⟩
theorem p0_size (s : ByteArray) : (p0 s).size = s.size + 1 := by unfold p0; rw [ByteArray.size_append]; show 1 + s.size = _; omega
theorem p1_size (s : ByteArray) : (p1 s).size = s.size + 1 := by unfold p1; rw [ByteArray.size_append]; show 1 + s.size = _; omega
theorem leaf_ (o : Orc) (s : ByteArray) (hb : o.ts.length ≤ 1099511627776) :
 Fnc Tryz.prog 167 [pt o.on, .string s] (orcM o) (RetO o (leafD o.ts s).1 orcM (.tuple #[.agg (dgV (leafD o.ts s).2).toArray, .int .i64 (sizeE s)])) := by
 by_cases h : s.size = 64
 · have e : leafD o.ts s = (addT o.ts (p0 s), D (p0 s)) := by unfold leafD; rw [if_pos h]
   rw [e, show sizeE s = 0 by unfold sizeE; rw [if_pos h]]
   refine fn_intro Tryz.func167 (by kernel_rfl) ?_
   repeat' ((conv => whnf); first
    | refine nw_z (fun n => ?_) | refine need (by rw [show IntKind.i64.max = 9223372036854775807 from rfl]; show ((1 + s.size : Nat) : Int) ≤ _; omega) ?_ | refine sv_eq (a := p0 s) rfl ?_ | (refine call_go (nsum o (p0 s) (by rw [p0_size]; omega) hb) (.one takeG) (fun o' h1 h2 => ?_)) | refine force_of ?_ | refine need (dgV_len _) ?_ | refine st_dg ?_ | refine ldN_dg rfl ?_ | (refine ifs (fun h => ?_) (fun h => ?_) <;> try (exfalso; first | omega | with_reducible first | contradiction | exact h rfl)))
   all_goals (conv => whnf)
   all_goals exact fin_g (A := orcM o') (.one takeG) ⟨o', h1, h2, rfl, rfl⟩
 · have e : leafD o.ts s = (o.ts, zD) := by unfold leafD; rw [if_neg h]
   rw [e, show sizeE s = 6 by unfold sizeE; rw [if_neg h]]
   refine fn_intro Tryz.func167 (by kernel_rfl) ?_
   repeat' ((conv => whnf); first
    | refine nw_z (fun n => ?_) | (refine bld_nil ?_) | (refine st_z ?_) | refine ldN_dg rfl ?_ | refine need (by first | rfl | omega) ?_ | (refine ifs (fun h => ?_) (fun h => ?_) <;> try (exfalso; first | omega | with_reducible first | contradiction | exact h rfl)))
   all_goals (conv => whnf)
   all_goals exact fin_g (A := orcM o) (.one takeG) ⟨o, rfl, rfl, rfl, rfl⟩
theorem node_ (o : Orc) (s : ByteArray) (hb : o.ts.length ≤ 1099511627776) :
 Fnc Tryz.prog 206 [pt o.on, .string s] (orcM o) (RetO o (nodeD o.ts s).1 orcM (.tuple #[.agg (dgV (nodeD o.ts s).2).toArray, .int .i64 (sizeE s)])) := by
 by_cases h : s.size = 64
 · have e : nodeD o.ts s = (addT o.ts (p1 s), D (p1 s)) := by unfold nodeD; rw [if_pos h]
   rw [e, show sizeE s = 0 by unfold sizeE; rw [if_pos h]]
   refine fn_intro Tryz.func206 (by kernel_rfl) ?_
   repeat' ((conv => whnf); first
    | refine nw_z (fun n => ?_) | refine need (by rw [show IntKind.i64.max = 9223372036854775807 from rfl]; show ((1 + s.size : Nat) : Int) ≤ _; omega) ?_ | refine sv_eq (a := p1 s) rfl ?_ | (refine call_go (nsum o (p1 s) (by rw [p1_size]; omega) hb) (.one takeG) (fun o' h1 h2 => ?_)) | refine force_of ?_ | refine need (dgV_len _) ?_ | refine st_dg ?_ | refine ldN_dg rfl ?_ | (refine ifs (fun h => ?_) (fun h => ?_) <;> try (exfalso; first | omega | with_reducible first | contradiction | exact h rfl)))
   all_goals (conv => whnf)
   all_goals exact fin_g (A := orcM o') (.one takeG) ⟨o', h1, h2, rfl, rfl⟩
 · have e : nodeD o.ts s = (o.ts, zD) := by unfold nodeD; rw [if_neg h]
   rw [e, show sizeE s = 6 by unfold sizeE; rw [if_neg h]]
   refine fn_intro Tryz.func206 (by kernel_rfl) ?_
   repeat' ((conv => whnf); first
    | refine nw_z (fun n => ?_) | (refine bld_nil ?_) | (refine st_z ?_) | refine ldN_dg rfl ?_ | refine need (by first | rfl | omega) ?_ | (refine ifs (fun h => ?_) (fun h => ?_) <;> try (exfalso; first | omega | with_reducible first | contradiction | exact h rfl)))
   all_goals (conv => whnf)
   all_goals exact fin_g (A := orcM o) (.one takeG) ⟨o, rfl, rfl, rfl, rfl⟩
end Node
namespace Node
open Go Ev Sha Aes Orc
def mayN (s : ByteArray) (side : Int) : Int := if s.size ≠ 64 then 6 else if side < 0 ∨ 1 < side then 3 else 0
theorem nmay (s : ByteArray) (side : Int) : Fnc Tryz.prog 241 [.string s, .int .i64 side] [] (Ret (.int .i64 (mayN s side)) []) := by
 refine fn_intro Tryz.func241 (by kernel_rfl) ?_
 repeat' ((conv => whnf); first
  | (refine ifs (fun h => ?_) (fun h => ?_) <;> try (exfalso; first | omega | with_reducible first | contradiction | exact h rfl)))
 all_goals (conv => whnf)
 all_goals exact fin_nil ⟨ret_int (by unfold mayN; (repeat' split) <;> omega), rfl⟩
theorem half_cells {s : ByteArray} (hs : s.size = 64) {side : Nat} (h : side ≤ 1) : (((s.extract (32 * side) s.size).data.toList.map fun x => Value.int .u8 (x.toNat : Int)).take 32) = dgV (halfD s side) := by
 have hsl : s.data.toList.length = 64 := hs
 have hd : (s.extract (32 * side) s.size).data.toList = s.data.toList.drop (32 * side) := by
  simp [ByteArray.data_extract]
  rw [List.take_of_length_le (by rw [List.length_drop]; rw [hsl, hs]; exact Nat.le_refl _)]
 rw [hd]
 unfold dgV halfD
 apply List.ext_getElem?
 intro j
 rw [List.getElem?_take]
 by_cases hj : j < 32
 · rw [if_pos hj, List.getElem?_map, List.getElem?_drop, List.getElem?_map, List.getElem?_range hj]
   have hl : 32 * side + j < s.data.toList.length := by omega
   have e : (s.data.toList[32 * side + j]?).getD 0 = s.data.toList[32 * side + j] := by rw [List.getElem?_eq_getElem hl]; rfl
   rw [List.getElem?_eq_getElem hl]
   show some (Value.int .u8 ((s.data.toList[32 * side + j]).toNat : Int)) = some (.int .u8 (((s.data.toList[32 * side + j]?).getD 0).toNat : Int))
   rw [e]
 · rw [if_neg hj, List.getElem?_eq_none (by simp; omega)]
theorem st_dgl {P : Program} {M : List Blk} {n : Nat} {t : TypeId} {l : List Value} {a b : Nat → UInt8} {f : Blk → List Blk} {K : List Blk → Prop} [z : Zip M n (.row (dgV a) t) f] (hl : l = dgV b) (hk : K (f ⟨n, .row (dgV b) t⟩)) : StN P M n 0 l K := by
 subst hl; exact st_dg hk
theorem dg_u8 (a : Nat → UInt8) : dgV a = u8s (dl a) ++ [] := by rw [List.append_nil]; exact dgV_u8 a
attribute [local irreducible] dgV D convert Builtin.copy_ Builtin.append_ Instr.makeSlice
theorem split_ (s : ByteArray) (side : Nat) (h : side ≤ 1) : Fnc Tryz.prog 213 [.string s, .int .i64 side] [] (Ret (.tuple #[.agg (dgV (splitD s side)).toArray, .int .i64 (sizeE s)]) []) := by
 have hm := nmay s side
 by_cases hs : s.size = 64
 · rw [show mayN s side = 0 by unfold mayN; rw [if_neg (by omega), if_neg (by omega)]] at hm
   rw [show splitD s side = halfD s side by unfold splitD; rw [if_pos hs], show sizeE s = 0 by unfold sizeE; rw [if_pos hs]]
   have hc := half_cells hs h
   refine fn_intro Tryz.func213 (by kernel_rfl) ?_
   repeat' ((conv => whnf); first
    | refine nw_z (fun n => ?_) | refine call_val hm ?_ | refine draw_any 5 [(0, true), (1, true), (2, true), (3, true), (4, true), (5, false)] [] rfl (by kernel_rfl) ?_ | refine kept_nil ?_ | refine sv_id ?_ | refine nv_eq (a := 0) rfl ?_ | refine nv_eq (a := 32) rfl ?_ | refine copy_head rfl rfl rfl (by rw [ByteArray.size_extract]; omega) ?_ | refine st_dgl hc ?_ | refine ldN_dg rfl ?_ | refine force_of ?_ | refine need (dgV_len _) ?_ | refine st_dg ?_ | refine need (by first | rfl | omega) ?_ | (refine wr (fun z hz => ?_); (try rw [Int.tdiv_eq_ediv_of_nonneg (by omega)] at hz); rw [w64 (by omega) (by omega)] at hz; subst hz) | (refine ifs (fun h => ?_) (fun h => ?_) <;> try (exfalso; first | omega | with_reducible first | contradiction | exact h rfl)))
   all_goals (conv => whnf)
   all_goals exact fin_nil ⟨rfl, rfl⟩
 · rw [show mayN s side = 6 by unfold mayN; rw [if_pos hs]] at hm
   rw [show splitD s side = zD by unfold splitD; rw [if_neg hs], show sizeE s = 6 by unfold sizeE; rw [if_neg hs]]
   refine fn_intro Tryz.func213 (by kernel_rfl) ?_
   repeat' ((conv => whnf); first
    | refine nw_z (fun n => ?_) | refine call_val hm ?_ | refine ldN_dg rfl ?_ | refine force_of ?_ | refine need (dgV_len _) ?_ | refine st_dg ?_ | (refine ifs (fun h => ?_) (fun h => ?_) <;> try (exfalso; first | omega | with_reducible first | contradiction | exact h rfl)))
   all_goals (conv => whnf)
   all_goals exact fin_nil ⟨rfl, rfl⟩
theorem with_ (s : ByteArray) (side : Nat) (d : Dg) (h : side ≤ 1) : Fnc Tryz.prog 215 [.string s, .int .i64 side, .agg (dgV d).toArray] [] (Ret (.tuple #[.string (withS s side d), .int .i64 (sizeE s)]) []) := by
 have hm := nmay s side
 by_cases hs : s.size = 64
 · rw [show mayN s side = 0 by unfold mayN; rw [if_neg (by omega), if_neg (by omega)]] at hm
   rw [show sizeE s = 0 by unfold sizeE; rw [if_pos hs]]
   have hside : side = 0 ∨ side = 1 := by omega
   rcases hside with rfl | rfl
   · rw [show withS s 0 d = str (dl d) ++ s.extract 32 s.size by unfold withS; rw [if_pos hs, if_pos rfl, hs]]
     refine fn_intro Tryz.func215 (by kernel_rfl) ?_
     repeat' ((conv => whnf); first
      | refine force_of ?_ | refine nw_dg (fun n => ?_) | refine call_val hm ?_ | refine draw_any 5 [(0, true), (2, true), (3, true), (1, false), (4, true), (5, true), (6, true)] [] rfl (by kernel_rfl) ?_ | refine kept_nil ?_ | refine sv_id ?_ | refine nv_eq (a := 0) rfl ?_ | refine nv_eq (a := 32) rfl ?_ | refine b2s_row (l := dl d) (junk := []) (dg_u8 d) rfl rfl rfl (by rw [dl_len]) ?_ | refine need (by rw [show IntKind.i64.max = 9223372036854775807 from rfl, ByteArray.size_extract, Ev.str_size, dl_len]; omega) ?_ | refine need (by first | rfl | omega) ?_ | (refine ifs (fun h => ?_) (fun h => ?_) <;> try (exfalso; first | omega | with_reducible first | contradiction | exact h rfl)))
     all_goals (conv => whnf)
     all_goals exact fin_nil ⟨rfl, rfl⟩
   · rw [show withS s 1 d = s.extract 0 32 ++ str (dl d) by unfold withS; rw [if_pos hs, if_neg (by decide)]]
     refine fn_intro Tryz.func215 (by kernel_rfl) ?_
     repeat' ((conv => whnf); first
      | refine force_of ?_ | refine nw_dg (fun n => ?_) | refine call_val hm ?_ | refine draw_any 6 [(0, true), (1, true), (2, true), (3, false), (4, true), (5, true), (6, true)] [] rfl (by kernel_rfl) ?_ | refine kept_nil ?_ | refine sv_id ?_ | refine nv_eq (a := 0) rfl ?_ | refine nv_eq (a := 32) rfl ?_ | refine b2s_row (l := dl d) (junk := []) (dg_u8 d) rfl rfl rfl (by rw [dl_len]) ?_ | refine need (by rw [show IntKind.i64.max = 9223372036854775807 from rfl, ByteArray.size_extract, Ev.str_size, dl_len]; omega) ?_ | refine need (by first | rfl | omega) ?_ | (refine ifs (fun h => ?_) (fun h => ?_) <;> try (exfalso; first | omega | with_reducible first | contradiction | exact h rfl)))
     all_goals (conv => whnf)
     all_goals exact fin_nil ⟨rfl, rfl⟩
 · rw [show mayN s side = 6 by unfold mayN; rw [if_pos hs]] at hm
   rw [show sizeE s = 6 by unfold sizeE; rw [if_neg hs], show withS s side d = ByteArray.empty by unfold withS; rw [if_neg hs]]
   refine fn_intro Tryz.func215 (by kernel_rfl) ?_
   repeat' ((conv => whnf); first
    | refine force_of ?_ | refine nw_dg (fun n => ?_) | refine call_val hm ?_ | (refine ifs (fun h => ?_) (fun h => ?_) <;> try (exfalso; first | omega | with_reducible first | contradiction | exact h rfl)))
   all_goals (conv => whnf)
   all_goals exact fin_nil ⟨rfl, rfl⟩
def at_ (l : Nat) : Nat → Nat
 | 0 => l + 63
 | k + 1 => (at_ l k - 1) / 2
theorem at_0 (l : Nat) : at_ l 0 = l + 63 := rfl
theorem at_s (l k : Nat) : at_ l (k + 1) = (at_ l k - 1) / 2 := rfl
theorem at_all {l : Nat} (hl : l < 64) : (63 ≤ at_ l 0 ∧ at_ l 0 ≤ 126) ∧ (31 ≤ at_ l 1 ∧ at_ l 1 ≤ 62) ∧ (15 ≤ at_ l 2 ∧ at_ l 2 ≤ 30) ∧ (7 ≤ at_ l 3 ∧ at_ l 3 ≤ 14) ∧ (3 ≤ at_ l 4 ∧ at_ l 4 ≤ 6) ∧ (1 ≤ at_ l 5 ∧ at_ l 5 ≤ 2) ∧ at_ l 6 = 0 := by
 have h0 := at_0 l
 have h1 : at_ l 1 = (at_ l 0 - 1) / 2 := rfl
 have h2 : at_ l 2 = (at_ l 1 - 1) / 2 := rfl
 have h3 : at_ l 3 = (at_ l 2 - 1) / 2 := rfl
 have h4 : at_ l 4 = (at_ l 3 - 1) / 2 := rfl
 have h5 : at_ l 5 = (at_ l 4 - 1) / 2 := rfl
 have h6 : at_ l 6 = (at_ l 5 - 1) / 2 := rfl
 omega
theorem at_pos {l k : Nat} (hl : l < 64) (hk : k < 6) : 0 < at_ l k := by
 have h := at_all hl
 have : k = 0 ∨ k = 1 ∨ k = 2 ∨ k = 3 ∨ k = 4 ∨ k = 5 := by omega
 rcases this with rfl | rfl | rfl | rfl | rfl | rfl <;> omega
theorem at_6 {l : Nat} (hl : l < 64) : at_ l 6 = 0 := (at_all hl).2.2.2.2.2.2
theorem at_le {l k : Nat} (hl : l < 64) (hk : k ≤ 6) : at_ l k ≤ 126 := by
 have h := at_all hl
 have : k = 0 ∨ k = 1 ∨ k = 2 ∨ k = 3 ∨ k = 4 ∨ k = 5 ∨ k = 6 := by omega
 rcases this with rfl | rfl | rfl | rfl | rfl | rfl | rfl <;> omega
theorem at_node {l k : Nat} (hl : l < 64) (hk : k < 6) : at_ l (k + 1) < 63 := by
 have h := at_all hl
 have : k = 0 ∨ k = 1 ∨ k = 2 ∨ k = 3 ∨ k = 4 ∨ k = 5 := by omega
 rcases this with rfl | rfl | rfl | rfl | rfl | rfl <;> simp only [Nat.zero_add, Nat.reduceAdd] <;> omega
theorem at_inj {l j i : Nat} (hl : l < 64) (hj : j ≤ i) (hi : i < 6) (h : at_ l (j + 1) = at_ l (i + 1)) : j = i := by
 have ha := at_all hl
 have : i = 0 ∨ i = 1 ∨ i = 2 ∨ i = 3 ∨ i = 4 ∨ i = 5 := by omega
 have hjj : j = 0 ∨ j = 1 ∨ j = 2 ∨ j = 3 ∨ j = 4 ∨ j = 5 := by omega
 rcases this with rfl | rfl | rfl | rfl | rfl | rfl <;> rcases hjj with rfl | rfl | rfl | rfl | rfl | rfl <;> first | rfl | (exfalso; omega) | (exfalso; simp only [Nat.zero_add, Nat.reduceAdd] at h; omega)
def side (l i : Nat) : Nat := (at_ l i + 1) % 2
theorem side_le (l i : Nat) : side l i ≤ 1 := by unfold side; omega
def pathV (l k : Nat) : List Value := (List.range k).map fun i => .int .i64 (at_ l (i + 1) : Nat)
theorem pathV_len (l k : Nat) : (pathV l k).length = k := by unfold pathV; simp
theorem pathV_succ (l k : Nat) : pathV l (k + 1) = pathV l k ++ [.int .i64 (at_ l (k + 1) : Nat)] := by unfold pathV; rw [List.range_succ, List.map_append]; rfl
theorem pathV_at {l k n : Nat} (h : k < n) : (pathV l n)[k]? = some (.int .i64 (at_ l (k + 1) : Nat)) := by unfold pathV; rw [List.getElem?_map, List.getElem?_range h]; rfl
attribute [local irreducible] at_ pathV
theorem path_ (l : Nat) (hl : l < 64) : Fnc Tryz.prog 210 [.int .i64 l] [] (fun e A => ∃ S : Own, S.ok 1 6 (pathV l 6) ∧ e = .returned (.tuple #[S.val 6, .int .i64 0]) ∧ A = S.blk 3 (pathV l 6)) := by
 have e0 := at_0 l
 refine fn_intro Tryz.func210 (by kernel_rfl) ?_
 repeat' ((conv => whnf); first
  | (refine wr (fun z hz => ?_); (try rw [Int.tdiv_eq_ediv_of_nonneg (by omega)] at hz); rw [w64 (by omega) (by omega)] at hz; subst hz) | (refine ifs (fun h => ?_) (fun h => ?_) <;> try (exfalso; first | omega | with_reducible first | contradiction | exact h rfl)))
 all_goals (conv => whnf)
 refine loop_rule [4, 5] (fun vs M m => ∃ (k : Nat) (S : Own), vs = [S.val k, .int .i64 (at_ l k : Nat)] ∧ k ≤ 6 ∧ S.ok 1 k (pathV l k) ∧ m = 6 - k ∧ M = S.blk 3 (pathV l k)) rfl ?_ ?_
 · exact fin_all ⟨_, 0, .nil, by rw [e0]; rfl, by omega, ⟨by rw [pathV_len], rfl⟩, rfl, rfl⟩
 rintro vs junk M' m ⟨k, S, rfl, hk, hS, rfl, rfl⟩
 by_cases hk6 : k < 6
 · have hp := at_pos hl hk6
   have hle := at_le hl hk
   have es := at_s l k
   have e1 : (((at_ l k : Nat) : Int) - 1) / 2 = ((at_ l (k + 1) : Nat) : Int) := by omega
   repeat' ((conv => whnf); first
    | (refine wr (fun z hz => ?_); rw [Int.tdiv_eq_ediv_of_nonneg (by omega), e1, w64 (by omega) (by omega)] at hz; subst hz) | refine app_cells (S := S) (n := k) (m := 1) (e := 3) (xs := pathV l k) (news := [.int .i64 (at_ l (k + 1) : Nat)]) rfl rfl rfl rfl rfl hS rfl (by intro u hu; simp only [List.mem_singleton] at hu; subst hu; rfl) (by show (k + 1) * 8 ≤ _; omega) (by omega) cells_at (fun S' hS' => ?_) | refine nw (fun n => ?_) | refine bld ?_ | refine need (by first | rfl | omega) ?_ | (refine wr (fun z hz => ?_); (try rw [Int.tdiv_eq_ediv_of_nonneg (by omega)] at hz); rw [w64 (by omega) (by omega)] at hz; subst hz) | (refine ifs (fun h => ?_) (fun h => ?_) <;> try (exfalso; first | omega | with_reducible first | contradiction | exact h rfl)))
   all_goals (conv => whnf)
   exact ⟨rfl, fin_drop (fin_all ⟨6 - (k + 1), by omega, k + 1, S', rfl, by omega, by rw [pathV_succ]; exact hS', rfl, by rw [pathV_succ]⟩)⟩
 · obtain rfl : k = 6 := by omega
   have e6 := at_6 hl
   repeat' ((conv => whnf); first
    | (refine ifs (fun h => ?_) (fun h => ?_) <;> try (exfalso; first | omega | with_reducible first | contradiction | exact h rfl)))
   all_goals (conv => whnf)
   exact fin_all ⟨S, hS, rfl, rfl⟩
theorem side_ (l i : Nat) (hl : l < 64) (hi : i < 6) : Fnc Tryz.prog 212 [.int .i64 l, .int .i64 (at_ l (i + 1) : Nat)] [] (Ret (.tuple #[.int .i64 (side l i : Nat), .int .i64 0]) []) := by
 have e0 := at_0 l
 refine fn_intro Tryz.func212 (by kernel_rfl) ?_
 repeat' ((conv => whnf); first
  | (refine wr (fun z hz => ?_); (try rw [Int.tdiv_eq_ediv_of_nonneg (by omega)] at hz); rw [w64 (by omega) (by omega)] at hz; subst hz) | (refine ifs (fun h => ?_) (fun h => ?_) <;> try (exfalso; first | omega | with_reducible first | contradiction | exact h rfl)))
 all_goals (conv => whnf)
 refine loop_rule [6] (fun vs M m => ∃ (k : Nat), vs = [.int .i64 (at_ l k : Nat)] ∧ k ≤ i ∧ m = 6 - k ∧ M = []) rfl ?_ ?_
 · exact fin_all ⟨_, 0, by rw [e0]; rfl, by omega, rfl, rfl⟩
 rintro vs junk M' m ⟨k, rfl, hk, rfl, rfl⟩
 have hp := at_pos hl (show k < 6 by omega)
 have hle := at_le hl (show k ≤ 6 by omega)
 have es := at_s l k
 have e1 : (((at_ l k : Nat) : Int) - 1) / 2 = ((at_ l (k + 1) : Nat) : Int) := by omega
 have hinj := at_inj (j := k) (i := i) hl hk hi
 repeat' ((conv => whnf); first
  | (refine wr (fun z hz => ?_); rw [Int.tdiv_eq_ediv_of_nonneg (by omega), e1, w64 (by omega) (by omega)] at hz; subst hz) | refine need (by first | rfl | omega) ?_ | (refine wr (fun z hz => ?_); (try rw [Int.tdiv_eq_ediv_of_nonneg (by omega)] at hz); rw [w64 (by omega) (by omega)] at hz; subst hz) | (refine zv (fun z hz => ?_); (try rw [Int.tmod_eq_emod_of_nonneg (by omega)] at hz); subst hz) | (refine ifs (fun h => ?_) (fun h => ?_) <;> try (exfalso; first | omega | with_reducible first | contradiction | exact h rfl)))
 all_goals (conv => whnf)
 · have hki : k = i := by omega
   subst hki
   exact fin_nil ⟨by unfold side; congr 4; try omega, rfl⟩
 · have hki : k ≠ i := by rintro rfl; omega
   exact ⟨rfl, fin_all ⟨6 - (k + 1), by omega, k + 1, rfl, by omega, rfl, rfl⟩⟩
end Node
end Go.Proofs.YtkjamonkohpcnaaGreat
