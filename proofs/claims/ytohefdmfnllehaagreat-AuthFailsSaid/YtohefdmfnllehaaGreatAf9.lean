/- A rig's step. -/
import Derived.Test.YtohefdmfnllehaaGreatAf8
import Derived.Test.YtohefdmfnllehaaGreatAf6
namespace Go.Proofs.YtohefdmfnllehaaGreat.Rig
open Go Ev Sha Aes
set_option linter.unusedVariables false
set_option linter.unusedSimpArgs false
set_option maxRecDepth 100000
attribute [local irreducible] rowD
theorem comes_ (n off : Nat) (cs : List Value) (t : TypeId) (z : Int) (hz : cs[off]? = some (.int .i64 z)) : Fnc Tryz.prog 187 [.pointer (some ⟨n, off, none⟩)] [⟨n, .row cs t⟩]
    (Ret (.bool (comes z).2) [⟨n, .row (cs.set off (.int .i64 (comes z).1)) t⟩]) := by
  have hl : off < cs.length := (List.getElem?_eq_some_iff.1 hz).1
  have hs : cs.set off (.int .i64 z) = cs := by
    apply List.ext_getElem?
    intro j
    rw [List.getElem?_set]
    by_cases h : off = j
    · subst h; rw [if_pos rfl, if_pos hl, hz]
    · rw [if_neg h]
  refine fn_intro Tryz.func187 (by kernel_rfl) ?_
  repeat' ((conv => whnf); first
      | refine ld1_row hz ?_
      | refine ld1_row (v := .int .i64 (IntKind.i64.wrap (z - 1))) (by rw [List.getElem?_set, if_pos rfl, if_pos hl]) ?_
      | refine st_row rfl hl ?_
      | (refine wr (fun y hy => ?_); subst hy)
      | refine ld1_lit ?_
      | refine ldN_lit ?_
      | refine nw (fun n => ?_)
      | refine bld ?_
      | refine st_lit rfl ?_
      | refine need (by first | rfl | omega) ?_
      | (refine zv (fun z hz => ?_); (try rw [Int.tmod_eq_emod_of_nonneg (by omega)] at hz); subst hz)
      | (refine ifs (fun h => ?_) (fun h => ?_) <;> (try (exfalso; first | omega | with_reducible contradiction | with_reducible exact h rfl))))
  all_goals (conv => whnf)
  · have e : comes z = (z, false) := by unfold comes; rw [if_pos (by assumption)]
    exact fin_all ⟨by rw [e]; rfl, by rw [e]; rw [hs]⟩
  · have e : comes z = (IntKind.i64.wrap (z - 1), true) := by unfold comes; rw [if_neg (by assumption), decide_eq_true (by assumption)]
    exact fin_all ⟨by rw [e]; rfl, by rw [e]⟩
  · have e : comes z = (IntKind.i64.wrap (z - 1), false) := by unfold comes; rw [if_neg (by assumption), decide_eq_false (by assumption)]
    exact fin_all ⟨by rw [e]; rfl, by rw [e]⟩
abbrev rB (a : RigA) (r : RigP) : Blk := ⟨a.rn, .row (rigC a r) 165⟩
theorem comes_later (a : RigA) (r : RigP) : Fnc Tryz.prog 187 [.pointer (some ⟨a.rn, 5, none⟩)] [rB a r] (Ret (.bool (comes r.later).2) [rB a { r with later := (comes r.later).1 }]) := comes_ a.rn 5 (rigC a r) _ r.later rfl
theorem comes_fault (a : RigA) (r : RigP) : Fnc Tryz.prog 187 [.pointer (some ⟨a.rn, 7, none⟩)] [rB a r] (Ret (.bool (comes r.fault).2) [rB a { r with fault := (comes r.fault).1 }]) := comes_ a.rn 7 (rigC a r) _ r.fault rfl
theorem comes_arm (a : RigA) (r : RigP) : Fnc Tryz.prog 187 [.pointer (some ⟨a.rn, 6, none⟩)] [rB a r] (Ret (.bool (comes r.arm).2) [rB a { r with arm := (comes r.arm).1 }]) := comes_ a.rn 6 (rigC a r) _ r.arm rfl
section
variable {P : Program} {M : List Blk} {a : RigA} {r : RigP} {f : Blk → List Blk} {k : List Blk → Prop} {T : TypeId}
theorem st_down {b : Bool} [z : Zip M a.rn (.row (rigC a r) T) f] (hk : k (f ⟨a.rn, .row (rigC a { r with down := b }) T⟩)) : StN P M a.rn 3 [.bool b] k := st_row rfl (by simp [rigC]) hk
theorem st_calls {x : Int} [z : Zip M a.rn (.row (rigC a r) T) f] (hk : k (f ⟨a.rn, .row (rigC a { r with calls := x }) T⟩)) : StN P M a.rn 4 [.int .i64 x] k := st_row rfl (by simp [rigC]) hk
theorem st_reg {s : ByteArray} [z : Zip M a.rn (.row (rigC a r) T) f] (hk : k (f ⟨a.rn, .row (rigC a { r with reg := s }) T⟩)) : StN P M a.rn 2 [.string s] k := st_row rfl (by simp [rigC]) hk
end
theorem may_ (a : RigA) (r : RigP) (d i : Int) : Fnc Tryz.prog 105 [pt a.rn, .int .i64 d, .int .i64 i] [] (Ret (.int .i64 (mayE d i)) []) := by
  refine fn_intro Tryz.func105 (by kernel_rfl) ?_
  repeat' ((conv => whnf); first
      | refine ld1_lit ?_
      | refine ldN_lit ?_
      | refine nw (fun n => ?_)
      | refine bld ?_
      | refine st_lit rfl ?_
      | refine need (by first | rfl | omega) ?_
      | (refine wr (fun z hz => ?_); (try rw [Int.tdiv_eq_ediv_of_nonneg (by omega)] at hz); rw [w64 (by omega) (by omega)] at hz; subst hz)
      | (refine zv (fun z hz => ?_); (try rw [Int.tmod_eq_emod_of_nonneg (by omega)] at hz); subst hz)
      | (refine ifs (fun h => ?_) (fun h => ?_) <;> (try (exfalso; first | omega | with_reducible contradiction | with_reducible exact h rfl))))
  all_goals (conv => whnf)
  all_goals exact fin_nil ⟨ret_int (by unfold mayE; (repeat' split) <;> omega), rfl⟩
attribute [local irreducible] comes
/-- The behaviour of a step over what it is for. -/
def StepQ (x : Rg) (A : List Blk) (v : Value) (A' : List Blk) : Ending → List Blk → Prop := fun e M =>
  match (tick x.r).2 with
  | some c => e = .returned (.int .i64 c) ∧ M = rgM ⟨x.a, (tick x.r).1⟩ ++ A
  | none => e = .returned v ∧ M = A'
theorem tk_td (r : RigP) : (tk r).td = r.td := by
  unfold tk tk1 tk0 RigP.setDev
  split
  · simp only; split <;> rfl
  · rfl
theorem dtamper (a : DevA) (d : DevC) (i : Int) (s : ByteArray) : ∃ e, Fnc Tryz.prog 106 [pt a.dn, .int .i64 i, .string s] (devM a d) (Ret (.int .i64 e) (devM a (tamperD d i s))) := by
  unfold tamperD
  by_cases h : 0 ≤ i ∧ i < 288 ∧ s.size = 64
  · rw [if_pos h]
    have := dtamper_ok a d i.toNat s (by omega) h.2.2
    rw [show ((i.toNat : Nat) : Int) = i by omega] at this
    exact ⟨_, this⟩
  · rw [if_neg h]
    exact ⟨_, dtamper_no a d i s h⟩
theorem app_of {α : Type} {l m : List α} {k : List α → Prop} (h : k (l ++ m)) : appK l m k := by rw [appK_eq]; exact h
attribute [local irreducible] devM
set_option maxHeartbeats 4000000 in
theorem step_ (x : Rg) (f : FuncId) (fs cs : List Value) (A A' : List Blk) (v : Value) (h : (tick x.r).2 = none → Fnc Tryz.prog f (fs ++ cs) (rgM ⟨x.a, (tick x.r).1⟩ ++ A) (Ret v A')) :
    Fnc Tryz.prog 107 [pt x.a.rn, .func (.func f) fs.toArray cs.toArray] (rgM x ++ A) (StepQ x A v A') := by
  obtain ⟨⟨rn, a0, a1⟩, r⟩ := x
  have hq : StepQ ⟨⟨rn, a0, a1⟩, r⟩ A v A' = fun e M => match (tick r).2 with
    | some c => e = .returned (.int .i64 c) ∧ M = rB ⟨rn, a0, a1⟩ (tick r).1 :: (devM a0 (tick r).1.d0 ++ (devM a1 (tick r).1.d1 ++ A))
    | none => e = .returned v ∧ M = A' := by
    funext e M
    unfold StepQ rgM rigM
    simp only [List.cons_append, List.append_assoc]
  rw [hq]
  unfold rgM rigM at h ⊢
  simp only [List.cons_append, List.append_assoc] at h ⊢
  clear hq
  obtain ⟨q0, q1, reg, down, calls, later, arm, fault, td, ti, ts, htd⟩ := r
  cases down with
  | true =>
    have ht : tick ⟨q0, q1, reg, true, calls, later, arm, fault, td, ti, ts, htd⟩ = (⟨q0, q1, reg, true, calls, later, arm, fault, td, ti, ts, htd⟩, some 11) := by unfold tick; rw [if_pos rfl]
    rw [ht]
    refine fn_intro Tryz.func107 (by kernel_rfl) ?_
    repeat' ((conv => whnf); first
        | refine ld1_row rfl ?_
        | refine ld1_lit ?_
        | refine ldN_lit ?_
        | refine nw (fun n => ?_)
        | refine bld ?_
        | refine st_lit rfl ?_
        | refine need (by first | rfl | omega) ?_
        | (refine wr (fun z hz => ?_); (try rw [Int.tdiv_eq_ediv_of_nonneg (by omega)] at hz); rw [w64 (by omega) (by omega)] at hz; subst hz)
        | (refine zv (fun z hz => ?_); (try rw [Int.tmod_eq_emod_of_nonneg (by omega)] at hz); subst hz)
        | (refine ifs (fun h => ?_) (fun h => ?_) <;> (try (exfalso; first | omega | with_reducible contradiction | with_reducible exact h rfl))))
    all_goals (conv => whnf)
    all_goals exact fin_all ⟨rfl, rfl⟩
  | false =>
    cases hl : (comes later).2 with
    | false =>
      cases ha : (comes arm).2 with
      | true =>
        have ek : tk ⟨q0, q1, reg, false, calls, later, arm, fault, td, ti, ts, htd⟩ = ⟨q0, q1, reg, false, (IntKind.i64.wrap (calls + 1)), (comes later).1, (comes arm).1, (comes fault).1, td, ti, ts, htd⟩ := by
          unfold tk tk1 tk0; rw [if_neg (by simp [hl])]
        have c1 := comes_later ⟨rn, a0, a1⟩ ⟨q0, q1, reg, false, (IntKind.i64.wrap (calls + 1)), later, arm, fault, td, ti, ts, htd⟩
        have c2 := comes_fault ⟨rn, a0, a1⟩ ⟨q0, q1, reg, false, (IntKind.i64.wrap (calls + 1)), (comes later).1, arm, fault, td, ti, ts, htd⟩
        have c3 := comes_arm ⟨rn, a0, a1⟩ ⟨q0, q1, reg, false, (IntKind.i64.wrap (calls + 1)), (comes later).1, arm, (comes fault).1, td, ti, ts, htd⟩
        have ht : tick ⟨q0, q1, reg, false, calls, later, arm, fault, td, ti, ts, htd⟩ = ({ tk ⟨q0, q1, reg, false, calls, later, arm, fault, td, ti, ts, htd⟩ with down := true }, some 11) := by
          unfold tick; rw [if_neg (by simp), if_pos ha]
        rw [ht, ek]
        simp only [hl, ha] at c1 c2 c3
        refine fn_intro Tryz.func107 (by kernel_rfl) ?_
        repeat' ((conv => whnf); first
            | refine ld1_row rfl ?_
            | refine st_calls (a := ⟨rn, a0, a1⟩) ?_
            | refine st_down (a := ⟨rn, a0, a1⟩) ?_
            | (refine wr (fun y hy => ?_); subst hy)
            | refine call_gr c1 (.blk takeC .nil) ?_
            | refine call_gr c2 (.blk takeC .nil) ?_
            | refine call_gr c3 (.blk takeC .nil) ?_
            | refine ld1_lit ?_
            | refine ldN_lit ?_
            | refine nw (fun n => ?_)
            | refine bld ?_
            | refine st_lit rfl ?_
            | refine need (by first | rfl | omega) ?_
            | (refine zv (fun z hz => ?_); (try rw [Int.tmod_eq_emod_of_nonneg (by omega)] at hz); subst hz)
            | (refine ifs (fun h => ?_) (fun h => ?_) <;> (try (exfalso; first | omega | with_reducible contradiction | with_reducible exact h rfl))))
        all_goals (conv => whnf)
        all_goals exact fin_g (A := rB ⟨rn, a0, a1⟩ _ :: (devM a0 _ ++ (devM a1 _ ++ A))) (.blk takeC (.grp takeG (.grp takeG (.one takeE)))) ⟨rfl, rfl⟩
      | false =>
        cases hf : (comes fault).2 with
        | true =>
          have ek : tk ⟨q0, q1, reg, false, calls, later, arm, fault, td, ti, ts, htd⟩ = ⟨q0, q1, reg, false, (IntKind.i64.wrap (calls + 1)), (comes later).1, (comes arm).1, (comes fault).1, td, ti, ts, htd⟩ := by
            unfold tk tk1 tk0; rw [if_neg (by simp [hl])]
          have c1 := comes_later ⟨rn, a0, a1⟩ ⟨q0, q1, reg, false, (IntKind.i64.wrap (calls + 1)), later, arm, fault, td, ti, ts, htd⟩
          have c2 := comes_fault ⟨rn, a0, a1⟩ ⟨q0, q1, reg, false, (IntKind.i64.wrap (calls + 1)), (comes later).1, arm, fault, td, ti, ts, htd⟩
          have c3 := comes_arm ⟨rn, a0, a1⟩ ⟨q0, q1, reg, false, (IntKind.i64.wrap (calls + 1)), (comes later).1, arm, (comes fault).1, td, ti, ts, htd⟩
          have ht : tick ⟨q0, q1, reg, false, calls, later, arm, fault, td, ti, ts, htd⟩ = (tk ⟨q0, q1, reg, false, calls, later, arm, fault, td, ti, ts, htd⟩, some 10) := by
            unfold tick; rw [if_neg (by simp), if_neg (by simp [ha]), if_pos hf]
          rw [ht, ek]
          simp only [hl, ha, hf] at c1 c2 c3
          refine fn_intro Tryz.func107 (by kernel_rfl) ?_
          repeat' ((conv => whnf); first
              | refine ld1_row rfl ?_
              | refine st_calls (a := ⟨rn, a0, a1⟩) ?_
              | refine st_down (a := ⟨rn, a0, a1⟩) ?_
              | (refine wr (fun y hy => ?_); subst hy)
              | refine call_gr c1 (.blk takeC .nil) ?_
              | refine call_gr c2 (.blk takeC .nil) ?_
              | refine call_gr c3 (.blk takeC .nil) ?_
              | refine ld1_lit ?_
              | refine ldN_lit ?_
              | refine nw (fun n => ?_)
              | refine bld ?_
              | refine st_lit rfl ?_
              | refine need (by first | rfl | omega) ?_
              | (refine zv (fun z hz => ?_); (try rw [Int.tmod_eq_emod_of_nonneg (by omega)] at hz); subst hz)
              | (refine ifs (fun h => ?_) (fun h => ?_) <;> (try (exfalso; first | omega | with_reducible contradiction | with_reducible exact h rfl))))
          all_goals (conv => whnf)
          all_goals exact fin_g (A := rB ⟨rn, a0, a1⟩ _ :: (devM a0 _ ++ (devM a1 _ ++ A))) (.blk takeC (.grp takeG (.grp takeG (.one takeE)))) ⟨rfl, rfl⟩
        | false =>
          have ek : tk ⟨q0, q1, reg, false, calls, later, arm, fault, td, ti, ts, htd⟩ = ⟨q0, q1, reg, false, (IntKind.i64.wrap (calls + 1)), (comes later).1, (comes arm).1, (comes fault).1, td, ti, ts, htd⟩ := by
            unfold tk tk1 tk0; rw [if_neg (by simp [hl])]
          have c1 := comes_later ⟨rn, a0, a1⟩ ⟨q0, q1, reg, false, (IntKind.i64.wrap (calls + 1)), later, arm, fault, td, ti, ts, htd⟩
          have c2 := comes_fault ⟨rn, a0, a1⟩ ⟨q0, q1, reg, false, (IntKind.i64.wrap (calls + 1)), (comes later).1, arm, fault, td, ti, ts, htd⟩
          have c3 := comes_arm ⟨rn, a0, a1⟩ ⟨q0, q1, reg, false, (IntKind.i64.wrap (calls + 1)), (comes later).1, arm, (comes fault).1, td, ti, ts, htd⟩
          have ht : tick ⟨q0, q1, reg, false, calls, later, arm, fault, td, ti, ts, htd⟩ = (tk ⟨q0, q1, reg, false, calls, later, arm, fault, td, ti, ts, htd⟩, none) := by
            unfold tick; rw [if_neg (by simp), if_neg (by simp [ha]), if_neg (by simp [hf])]
          have h' := h (by rw [ht])
          rw [ht, ek] at h'
          rw [ht]
          have h'' := h'
          rw [← List.append_nil fs] at h''
          simp only [hl, ha, hf] at c1 c2 c3
          refine fn_intro Tryz.func107 (by kernel_rfl) ?_
          repeat' ((conv => whnf); first
              | refine ld1_row rfl ?_
              | refine st_calls (a := ⟨rn, a0, a1⟩) ?_
              | refine st_down (a := ⟨rn, a0, a1⟩) ?_
              | (refine wr (fun y hy => ?_); subst hy)
              | refine call_gr c1 (.blk takeC .nil) ?_
              | refine call_gr c2 (.blk takeC .nil) ?_
              | refine call_gr c3 (.blk takeC .nil) ?_
              | refine call_gr (A := _ :: _) h'' (.blk takeC (.grp takeG (.grp takeG (.one takeE)))) ?_
              | refine app_of ?_
              | refine ld1_lit ?_
              | refine ldN_lit ?_
              | refine nw (fun n => ?_)
              | refine bld ?_
              | refine st_lit rfl ?_
              | refine need (by first | rfl | omega) ?_
              | (refine zv (fun z hz => ?_); (try rw [Int.tmod_eq_emod_of_nonneg (by omega)] at hz); subst hz)
              | (refine ifs (fun h => ?_) (fun h => ?_) <;> (try (exfalso; first | omega | with_reducible contradiction | with_reducible exact h rfl))))
          all_goals (conv => whnf)
          all_goals exact fin_g (A := A') (.one takeE) ⟨rfl, rfl⟩
    | true =>
      have htd2 := htd
      rcases htd2 with hq | hq
      · cases ha : (comes arm).2 with
        | true =>
          subst hq
          have ek : tk ⟨q0, q1, reg, false, calls, later, arm, fault, 0, ti, ts, htd⟩ = ⟨(tamperD q0 ti ts), q1, reg, false, (IntKind.i64.wrap (calls + 1)), (comes later).1, (comes arm).1, (comes fault).1, 0, ti, ts, htd⟩ := by
            unfold tk tk1 tk0; rw [if_pos hl]; rfl
          have c1 := comes_later ⟨rn, a0, a1⟩ ⟨q0, q1, reg, false, (IntKind.i64.wrap (calls + 1)), later, arm, fault, 0, ti, ts, htd⟩
          have c2 := comes_fault ⟨rn, a0, a1⟩ ⟨(tamperD q0 ti ts), q1, reg, false, (IntKind.i64.wrap (calls + 1)), (comes later).1, arm, fault, 0, ti, ts, htd⟩
          have c3 := comes_arm ⟨rn, a0, a1⟩ ⟨(tamperD q0 ti ts), q1, reg, false, (IntKind.i64.wrap (calls + 1)), (comes later).1, arm, (comes fault).1, 0, ti, ts, htd⟩
          obtain ⟨te, ct⟩ := dtamper a0 q0 ti ts
          have ht : tick ⟨q0, q1, reg, false, calls, later, arm, fault, 0, ti, ts, htd⟩ = ({ tk ⟨q0, q1, reg, false, calls, later, arm, fault, 0, ti, ts, htd⟩ with down := true }, some 11) := by
            unfold tick; rw [if_neg (by simp), if_pos ha]
          rw [ht, ek]
          simp only [hl, ha] at c1 c2 c3
          refine fn_intro Tryz.func107 (by kernel_rfl) ?_
          repeat' ((conv => whnf); first
              | refine ld1_row rfl ?_
              | refine st_calls (a := ⟨rn, a0, a1⟩) ?_
              | refine st_down (a := ⟨rn, a0, a1⟩) ?_
              | (refine wr (fun y hy => ?_); subst hy)
              | refine call_gr c1 (.blk takeC .nil) ?_
              | refine call_gr c2 (.blk takeC .nil) ?_
              | refine call_gr c3 (.blk takeC .nil) ?_
              | refine draw_any 5 [(0, true), (1, true), (2, true), (3, true), (4, true), (6, true), (7, true), (10, true), (11, true), (12, true), (13, true), (15, true), (16, true), (17, true), (18, true), (5, true), (8, true), (9, true), (14, true), (19, false), (20, false)] [⟨rn, _⟩] rfl (by kernel_rfl) (kept1 ?_)
              | refine kept1 (n := rn) ?_
              | refine fld1_row (n := rn) rfl ?_
              | refine nv_eq (a := 0) rfl ?_
              | refine need (show (0 : Int) ≤ 0 ∧ (0 : Int) < ((2 : Nat) : Int) by decide) ?_
              | refine call_gr ct (.one takeG) ?_
              | refine ld1_lit ?_
              | refine ldN_lit ?_
              | refine nw (fun n => ?_)
              | refine bld ?_
              | refine st_lit rfl ?_
              | refine need (by first | rfl | omega) ?_
              | (refine zv (fun z hz => ?_); (try rw [Int.tmod_eq_emod_of_nonneg (by omega)] at hz); subst hz)
              | (refine ifs (fun h => ?_) (fun h => ?_) <;> (try (exfalso; first | omega | with_reducible contradiction | with_reducible exact h rfl))))
          all_goals (conv => whnf)
          all_goals exact fin_g (A := rB ⟨rn, a0, a1⟩ _ :: (devM a0 _ ++ (devM a1 _ ++ A))) (.blk takeC (.grp takeG (.grp takeG (.one takeE)))) ⟨rfl, rfl⟩
        | false =>
          cases hf : (comes fault).2 with
          | true =>
            subst hq
            have ek : tk ⟨q0, q1, reg, false, calls, later, arm, fault, 0, ti, ts, htd⟩ = ⟨(tamperD q0 ti ts), q1, reg, false, (IntKind.i64.wrap (calls + 1)), (comes later).1, (comes arm).1, (comes fault).1, 0, ti, ts, htd⟩ := by
              unfold tk tk1 tk0; rw [if_pos hl]; rfl
            have c1 := comes_later ⟨rn, a0, a1⟩ ⟨q0, q1, reg, false, (IntKind.i64.wrap (calls + 1)), later, arm, fault, 0, ti, ts, htd⟩
            have c2 := comes_fault ⟨rn, a0, a1⟩ ⟨(tamperD q0 ti ts), q1, reg, false, (IntKind.i64.wrap (calls + 1)), (comes later).1, arm, fault, 0, ti, ts, htd⟩
            have c3 := comes_arm ⟨rn, a0, a1⟩ ⟨(tamperD q0 ti ts), q1, reg, false, (IntKind.i64.wrap (calls + 1)), (comes later).1, arm, (comes fault).1, 0, ti, ts, htd⟩
            obtain ⟨te, ct⟩ := dtamper a0 q0 ti ts
            have ht : tick ⟨q0, q1, reg, false, calls, later, arm, fault, 0, ti, ts, htd⟩ = (tk ⟨q0, q1, reg, false, calls, later, arm, fault, 0, ti, ts, htd⟩, some 10) := by
              unfold tick; rw [if_neg (by simp), if_neg (by simp [ha]), if_pos hf]
            rw [ht, ek]
            simp only [hl, ha, hf] at c1 c2 c3
            refine fn_intro Tryz.func107 (by kernel_rfl) ?_
            repeat' ((conv => whnf); first
                | refine ld1_row rfl ?_
                | refine st_calls (a := ⟨rn, a0, a1⟩) ?_
                | refine st_down (a := ⟨rn, a0, a1⟩) ?_
                | (refine wr (fun y hy => ?_); subst hy)
                | refine call_gr c1 (.blk takeC .nil) ?_
                | refine call_gr c2 (.blk takeC .nil) ?_
                | refine call_gr c3 (.blk takeC .nil) ?_
                | refine draw_any 5 [(0, true), (1, true), (2, true), (3, true), (4, true), (6, true), (7, true), (10, true), (11, true), (12, true), (13, true), (15, true), (16, true), (17, true), (18, true), (5, true), (8, true), (9, true), (14, true), (19, false), (20, false)] [⟨rn, _⟩] rfl (by kernel_rfl) (kept1 ?_)
                | refine kept1 (n := rn) ?_
                | refine fld1_row (n := rn) rfl ?_
                | refine nv_eq (a := 0) rfl ?_
                | refine need (show (0 : Int) ≤ 0 ∧ (0 : Int) < ((2 : Nat) : Int) by decide) ?_
                | refine call_gr ct (.one takeG) ?_
                | refine ld1_lit ?_
                | refine ldN_lit ?_
                | refine nw (fun n => ?_)
                | refine bld ?_
                | refine st_lit rfl ?_
                | refine need (by first | rfl | omega) ?_
                | (refine zv (fun z hz => ?_); (try rw [Int.tmod_eq_emod_of_nonneg (by omega)] at hz); subst hz)
                | (refine ifs (fun h => ?_) (fun h => ?_) <;> (try (exfalso; first | omega | with_reducible contradiction | with_reducible exact h rfl))))
            all_goals (conv => whnf)
            all_goals exact fin_g (A := rB ⟨rn, a0, a1⟩ _ :: (devM a0 _ ++ (devM a1 _ ++ A))) (.blk takeC (.grp takeG (.grp takeG (.one takeE)))) ⟨rfl, rfl⟩
          | false =>
            subst hq
            have ek : tk ⟨q0, q1, reg, false, calls, later, arm, fault, 0, ti, ts, htd⟩ = ⟨(tamperD q0 ti ts), q1, reg, false, (IntKind.i64.wrap (calls + 1)), (comes later).1, (comes arm).1, (comes fault).1, 0, ti, ts, htd⟩ := by
              unfold tk tk1 tk0; rw [if_pos hl]; rfl
            have c1 := comes_later ⟨rn, a0, a1⟩ ⟨q0, q1, reg, false, (IntKind.i64.wrap (calls + 1)), later, arm, fault, 0, ti, ts, htd⟩
            have c2 := comes_fault ⟨rn, a0, a1⟩ ⟨(tamperD q0 ti ts), q1, reg, false, (IntKind.i64.wrap (calls + 1)), (comes later).1, arm, fault, 0, ti, ts, htd⟩
            have c3 := comes_arm ⟨rn, a0, a1⟩ ⟨(tamperD q0 ti ts), q1, reg, false, (IntKind.i64.wrap (calls + 1)), (comes later).1, arm, (comes fault).1, 0, ti, ts, htd⟩
            obtain ⟨te, ct⟩ := dtamper a0 q0 ti ts
            have ht : tick ⟨q0, q1, reg, false, calls, later, arm, fault, 0, ti, ts, htd⟩ = (tk ⟨q0, q1, reg, false, calls, later, arm, fault, 0, ti, ts, htd⟩, none) := by
              unfold tick; rw [if_neg (by simp), if_neg (by simp [ha]), if_neg (by simp [hf])]
            have h' := h (by rw [ht])
            rw [ht, ek] at h'
            rw [ht]
            have h'' := h'
            rw [← List.append_nil fs] at h''
            simp only [hl, ha, hf] at c1 c2 c3
            refine fn_intro Tryz.func107 (by kernel_rfl) ?_
            repeat' ((conv => whnf); first
                | refine ld1_row rfl ?_
                | refine st_calls (a := ⟨rn, a0, a1⟩) ?_
                | refine st_down (a := ⟨rn, a0, a1⟩) ?_
                | (refine wr (fun y hy => ?_); subst hy)
                | refine call_gr c1 (.blk takeC .nil) ?_
                | refine call_gr c2 (.blk takeC .nil) ?_
                | refine call_gr c3 (.blk takeC .nil) ?_
                | refine draw_any 5 [(0, true), (1, true), (2, true), (3, true), (4, true), (6, true), (7, true), (10, true), (11, true), (12, true), (13, true), (15, true), (16, true), (17, true), (18, true), (5, true), (8, true), (9, true), (14, true), (19, false), (20, false)] [⟨rn, _⟩] rfl (by kernel_rfl) (kept1 ?_)
                | refine kept1 (n := rn) ?_
                | refine fld1_row (n := rn) rfl ?_
                | refine nv_eq (a := 0) rfl ?_
                | refine need (show (0 : Int) ≤ 0 ∧ (0 : Int) < ((2 : Nat) : Int) by decide) ?_
                | refine call_gr ct (.one takeG) ?_
                | refine call_gr (A := _ :: _) h'' (.blk takeC (.grp takeG (.grp takeG (.one takeE)))) ?_
                | refine app_of ?_
                | refine ld1_lit ?_
                | refine ldN_lit ?_
                | refine nw (fun n => ?_)
                | refine bld ?_
                | refine st_lit rfl ?_
                | refine need (by first | rfl | omega) ?_
                | (refine zv (fun z hz => ?_); (try rw [Int.tmod_eq_emod_of_nonneg (by omega)] at hz); subst hz)
                | (refine ifs (fun h => ?_) (fun h => ?_) <;> (try (exfalso; first | omega | with_reducible contradiction | with_reducible exact h rfl))))
            all_goals (conv => whnf)
            all_goals exact fin_g (A := A') (.one takeE) ⟨rfl, rfl⟩
      · cases ha : (comes arm).2 with
        | true =>
          subst hq
          have ek : tk ⟨q0, q1, reg, false, calls, later, arm, fault, 1, ti, ts, htd⟩ = ⟨q0, (tamperD q1 ti ts), reg, false, (IntKind.i64.wrap (calls + 1)), (comes later).1, (comes arm).1, (comes fault).1, 1, ti, ts, htd⟩ := by
            unfold tk tk1 tk0; rw [if_pos hl]; rfl
          have c1 := comes_later ⟨rn, a0, a1⟩ ⟨q0, q1, reg, false, (IntKind.i64.wrap (calls + 1)), later, arm, fault, 1, ti, ts, htd⟩
          have c2 := comes_fault ⟨rn, a0, a1⟩ ⟨q0, (tamperD q1 ti ts), reg, false, (IntKind.i64.wrap (calls + 1)), (comes later).1, arm, fault, 1, ti, ts, htd⟩
          have c3 := comes_arm ⟨rn, a0, a1⟩ ⟨q0, (tamperD q1 ti ts), reg, false, (IntKind.i64.wrap (calls + 1)), (comes later).1, arm, (comes fault).1, 1, ti, ts, htd⟩
          obtain ⟨te, ct⟩ := dtamper a1 q1 ti ts
          have ht : tick ⟨q0, q1, reg, false, calls, later, arm, fault, 1, ti, ts, htd⟩ = ({ tk ⟨q0, q1, reg, false, calls, later, arm, fault, 1, ti, ts, htd⟩ with down := true }, some 11) := by
            unfold tick; rw [if_neg (by simp), if_pos ha]
          rw [ht, ek]
          simp only [hl, ha] at c1 c2 c3
          refine fn_intro Tryz.func107 (by kernel_rfl) ?_
          repeat' ((conv => whnf); first
              | refine ld1_row rfl ?_
              | refine st_calls (a := ⟨rn, a0, a1⟩) ?_
              | refine st_down (a := ⟨rn, a0, a1⟩) ?_
              | (refine wr (fun y hy => ?_); subst hy)
              | refine call_gr c1 (.blk takeC .nil) ?_
              | refine call_gr c2 (.blk takeC .nil) ?_
              | refine call_gr c3 (.blk takeC .nil) ?_
              | refine draw_any 5 [(0, true), (1, true), (2, true), (3, true), (4, true), (6, true), (7, true), (10, true), (11, true), (12, true), (13, true), (15, true), (16, true), (17, true), (18, true), (5, true), (8, true), (9, true), (14, true), (19, false), (20, false)] [⟨rn, _⟩] rfl (by kernel_rfl) (kept1 ?_)
              | refine kept1 (n := rn) ?_
              | refine fld1_row (n := rn) rfl ?_
              | refine nv_eq (a := 1) rfl ?_
              | refine need (show (0 : Int) ≤ 1 ∧ (1 : Int) < ((2 : Nat) : Int) by decide) ?_
              | refine call_gr ct (.one takeG) ?_
              | refine ld1_lit ?_
              | refine ldN_lit ?_
              | refine nw (fun n => ?_)
              | refine bld ?_
              | refine st_lit rfl ?_
              | refine need (by first | rfl | omega) ?_
              | (refine zv (fun z hz => ?_); (try rw [Int.tmod_eq_emod_of_nonneg (by omega)] at hz); subst hz)
              | (refine ifs (fun h => ?_) (fun h => ?_) <;> (try (exfalso; first | omega | with_reducible contradiction | with_reducible exact h rfl))))
          all_goals (conv => whnf)
          all_goals exact fin_g (A := rB ⟨rn, a0, a1⟩ _ :: (devM a0 _ ++ (devM a1 _ ++ A))) (.blk takeC (.grp takeG (.grp takeG (.one takeE)))) ⟨rfl, rfl⟩
        | false =>
          cases hf : (comes fault).2 with
          | true =>
            subst hq
            have ek : tk ⟨q0, q1, reg, false, calls, later, arm, fault, 1, ti, ts, htd⟩ = ⟨q0, (tamperD q1 ti ts), reg, false, (IntKind.i64.wrap (calls + 1)), (comes later).1, (comes arm).1, (comes fault).1, 1, ti, ts, htd⟩ := by
              unfold tk tk1 tk0; rw [if_pos hl]; rfl
            have c1 := comes_later ⟨rn, a0, a1⟩ ⟨q0, q1, reg, false, (IntKind.i64.wrap (calls + 1)), later, arm, fault, 1, ti, ts, htd⟩
            have c2 := comes_fault ⟨rn, a0, a1⟩ ⟨q0, (tamperD q1 ti ts), reg, false, (IntKind.i64.wrap (calls + 1)), (comes later).1, arm, fault, 1, ti, ts, htd⟩
            have c3 := comes_arm ⟨rn, a0, a1⟩ ⟨q0, (tamperD q1 ti ts), reg, false, (IntKind.i64.wrap (calls + 1)), (comes later).1, arm, (comes fault).1, 1, ti, ts, htd⟩
            obtain ⟨te, ct⟩ := dtamper a1 q1 ti ts
            have ht : tick ⟨q0, q1, reg, false, calls, later, arm, fault, 1, ti, ts, htd⟩ = (tk ⟨q0, q1, reg, false, calls, later, arm, fault, 1, ti, ts, htd⟩, some 10) := by
              unfold tick; rw [if_neg (by simp), if_neg (by simp [ha]), if_pos hf]
            rw [ht, ek]
            simp only [hl, ha, hf] at c1 c2 c3
            refine fn_intro Tryz.func107 (by kernel_rfl) ?_
            repeat' ((conv => whnf); first
                | refine ld1_row rfl ?_
                | refine st_calls (a := ⟨rn, a0, a1⟩) ?_
                | refine st_down (a := ⟨rn, a0, a1⟩) ?_
                | (refine wr (fun y hy => ?_); subst hy)
                | refine call_gr c1 (.blk takeC .nil) ?_
                | refine call_gr c2 (.blk takeC .nil) ?_
                | refine call_gr c3 (.blk takeC .nil) ?_
                | refine draw_any 5 [(0, true), (1, true), (2, true), (3, true), (4, true), (6, true), (7, true), (10, true), (11, true), (12, true), (13, true), (15, true), (16, true), (17, true), (18, true), (5, true), (8, true), (9, true), (14, true), (19, false), (20, false)] [⟨rn, _⟩] rfl (by kernel_rfl) (kept1 ?_)
                | refine kept1 (n := rn) ?_
                | refine fld1_row (n := rn) rfl ?_
                | refine nv_eq (a := 1) rfl ?_
                | refine need (show (0 : Int) ≤ 1 ∧ (1 : Int) < ((2 : Nat) : Int) by decide) ?_
                | refine call_gr ct (.one takeG) ?_
                | refine ld1_lit ?_
                | refine ldN_lit ?_
                | refine nw (fun n => ?_)
                | refine bld ?_
                | refine st_lit rfl ?_
                | refine need (by first | rfl | omega) ?_
                | (refine zv (fun z hz => ?_); (try rw [Int.tmod_eq_emod_of_nonneg (by omega)] at hz); subst hz)
                | (refine ifs (fun h => ?_) (fun h => ?_) <;> (try (exfalso; first | omega | with_reducible contradiction | with_reducible exact h rfl))))
            all_goals (conv => whnf)
            all_goals exact fin_g (A := rB ⟨rn, a0, a1⟩ _ :: (devM a0 _ ++ (devM a1 _ ++ A))) (.blk takeC (.grp takeG (.grp takeG (.one takeE)))) ⟨rfl, rfl⟩
          | false =>
            subst hq
            have ek : tk ⟨q0, q1, reg, false, calls, later, arm, fault, 1, ti, ts, htd⟩ = ⟨q0, (tamperD q1 ti ts), reg, false, (IntKind.i64.wrap (calls + 1)), (comes later).1, (comes arm).1, (comes fault).1, 1, ti, ts, htd⟩ := by
              unfold tk tk1 tk0; rw [if_pos hl]; rfl
            have c1 := comes_later ⟨rn, a0, a1⟩ ⟨q0, q1, reg, false, (IntKind.i64.wrap (calls + 1)), later, arm, fault, 1, ti, ts, htd⟩
            have c2 := comes_fault ⟨rn, a0, a1⟩ ⟨q0, (tamperD q1 ti ts), reg, false, (IntKind.i64.wrap (calls + 1)), (comes later).1, arm, fault, 1, ti, ts, htd⟩
            have c3 := comes_arm ⟨rn, a0, a1⟩ ⟨q0, (tamperD q1 ti ts), reg, false, (IntKind.i64.wrap (calls + 1)), (comes later).1, arm, (comes fault).1, 1, ti, ts, htd⟩
            obtain ⟨te, ct⟩ := dtamper a1 q1 ti ts
            have ht : tick ⟨q0, q1, reg, false, calls, later, arm, fault, 1, ti, ts, htd⟩ = (tk ⟨q0, q1, reg, false, calls, later, arm, fault, 1, ti, ts, htd⟩, none) := by
              unfold tick; rw [if_neg (by simp), if_neg (by simp [ha]), if_neg (by simp [hf])]
            have h' := h (by rw [ht])
            rw [ht, ek] at h'
            rw [ht]
            have h'' := h'
            rw [← List.append_nil fs] at h''
            simp only [hl, ha, hf] at c1 c2 c3
            refine fn_intro Tryz.func107 (by kernel_rfl) ?_
            repeat' ((conv => whnf); first
                | refine ld1_row rfl ?_
                | refine st_calls (a := ⟨rn, a0, a1⟩) ?_
                | refine st_down (a := ⟨rn, a0, a1⟩) ?_
                | (refine wr (fun y hy => ?_); subst hy)
                | refine call_gr c1 (.blk takeC .nil) ?_
                | refine call_gr c2 (.blk takeC .nil) ?_
                | refine call_gr c3 (.blk takeC .nil) ?_
                | refine draw_any 5 [(0, true), (1, true), (2, true), (3, true), (4, true), (6, true), (7, true), (10, true), (11, true), (12, true), (13, true), (15, true), (16, true), (17, true), (18, true), (5, true), (8, true), (9, true), (14, true), (19, false), (20, false)] [⟨rn, _⟩] rfl (by kernel_rfl) (kept1 ?_)
                | refine kept1 (n := rn) ?_
                | refine fld1_row (n := rn) rfl ?_
                | refine nv_eq (a := 1) rfl ?_
                | refine need (show (0 : Int) ≤ 1 ∧ (1 : Int) < ((2 : Nat) : Int) by decide) ?_
                | refine call_gr ct (.one takeG) ?_
                | refine call_gr (A := _ :: _) h'' (.blk takeC (.grp takeG (.grp takeG (.one takeE)))) ?_
                | refine app_of ?_
                | refine ld1_lit ?_
                | refine ldN_lit ?_
                | refine nw (fun n => ?_)
                | refine bld ?_
                | refine st_lit rfl ?_
                | refine need (by first | rfl | omega) ?_
                | (refine zv (fun z hz => ?_); (try rw [Int.tmod_eq_emod_of_nonneg (by omega)] at hz); subst hz)
                | (refine ifs (fun h => ?_) (fun h => ?_) <;> (try (exfalso; first | omega | with_reducible contradiction | with_reducible exact h rfl))))
            all_goals (conv => whnf)
            all_goals exact fin_g (A := A') (.one takeE) ⟨rfl, rfl⟩
end Go.Proofs.YtohefdmfnllehaaGreat.Rig
