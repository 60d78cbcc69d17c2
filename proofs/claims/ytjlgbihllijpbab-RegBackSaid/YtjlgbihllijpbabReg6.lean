/- R11.Get. -/
import Derived.Test.YtjlgbihllijpbabReg5
import Derived.Test.YtjlgbihllijpbabReg3
import Derived.Test.YtjlgbihllijpbabReg4
namespace Go.Proofs.Ytjlgbihllijpbab.Reg
open Go Ev Be Geom
set_option linter.unusedVariables false
set_option linter.unusedSimpArgs false
set_option maxRecDepth 100000
section
variable {b : Dg} {e iv a0 a1 u0 u1 d m : Int} {t : Bool}
theorem right_t (a : Dg) (h : RR b e iv a0 a1 u0 u1 d m t) : Fnc Try.prog 21 [.agg (regL a b e iv a0 a1 u0 u1 d m t).toArray] [] (Ret (.bool true) []) := by have := right a b e iv a0 a1 u0 u1 d m t; rwa [rr_t h] at this
theorem right_f (a : Dg) (h : ¬ RR b e iv a0 a1 u0 u1 d m t) : Fnc Try.prog 21 [.agg (regL a b e iv a0 a1 u0 u1 d m t).toArray] [] (Ret (.bool false) []) := by have := right a b e iv a0 a1 u0 u1 d m t; rwa [rr_f h] at this
end
theorem zeros96 : Fnc Try.prog 48 [.int .i64 96] [] (Ret (.string (str (List.replicate 96 0))) []) := zeros 96 (by omega) (by omega)
attribute [local irreducible] convert Builtin.copy_ Builtin.append_ Instr.makeSlice
attribute [local irreducible] S layL eC iC fC putS putE nuN nuA byS byE byA nuE getE getN tC
theorem rget_form (s : ByteArray) (h : ¬ s.size = 96) : Fnc Try.prog 25 [.string s] [] (Ret (.tuple #[.agg regZ.toArray, .int .i64 6]) []) := by
  refine fn_intro Try.func25 (by kernel_rfl) ?_
  repeat' ((conv => whnf); first
      | refine ld1_lit ?_
      | refine ldN_lit ?_
      | refine nw (fun n => ?_)
      | refine st_lit rfl ?_
      | refine need (by first | rfl | omega) ?_
      | (refine wr (fun z hz => ?_); (try rw [Int.tdiv_eq_ediv_of_nonneg (by omega)] at hz); rw [w64 (by omega) (by omega)] at hz; subst hz)
      | (refine zv (fun z hz => ?_); (try rw [Int.tmod_eq_emod_of_nonneg (by omega)] at hz); subst hz)
      | (refine ifs (fun h => ?_) (fun h => ?_) <;> (try (exfalso; first | omega | with_reducible contradiction | with_reducible exact h rfl)))
      | refine fin_nil ⟨?_, rfl⟩)
  all_goals rfl
theorem rget_fmt : Fnc Try.prog 25 [.string (str (List.replicate 96 0))] [] (Ret (.tuple #[.agg regZ.toArray, .int .i64 19]) []) := by
  have hz : (str (List.replicate 96 0)).size = 96 := by rw [Ev.str_size]; rfl
  have zs := zeros96
  generalize hs : str (List.replicate 96 0) = s at *
  refine fn_intro Try.func25 (by kernel_rfl) ?_
  repeat' ((conv => whnf); first
      | refine call_val zs ?_
      | refine ld1_lit ?_
      | refine ldN_lit ?_
      | refine nw (fun n => ?_)
      | refine st_lit rfl ?_
      | refine need (by first | rfl | omega) ?_
      | (refine wr (fun z hz => ?_); (try rw [Int.tdiv_eq_ediv_of_nonneg (by omega)] at hz); rw [w64 (by omega) (by omega)] at hz; subst hz)
      | (refine zv (fun z hz => ?_); (try rw [Int.tmod_eq_emod_of_nonneg (by omega)] at hz); subst hz)
      | (refine ifs (fun h => ?_) (fun h => ?_) <;> (try (exfalso; first | omega | with_reducible contradiction | with_reducible exact h rfl)))
      | refine fin_nil ⟨?_, rfl⟩)
  all_goals rfl
def RQ (c : Dg) : Ending → List Blk → Prop := fun e A => A = [] ∧
    ((RO c ∧ e = .returned (.tuple #[.agg (regL c (bD c) (eC c) (iC c) (fC c 76) (fC c 78) (fC c 77) (fC c 79) (fC c 80) (fC c 81) (tC c)).toArray, .int .i64 0])) ∨ (¬ RO c ∧ e = .returned (.tuple #[.agg regZ.toArray, .int .i64 6])))
theorem rq_t {c : Dg} (h : RO c) {t : Bool} (ht : tC c = t) : RQ c (.returned (oneOrMany [.agg (regL c (bD c) (eC c) (iC c) (fC c 76) (fC c 78) (fC c 77) (fC c 79) (fC c 80) (fC c 81) t).toArray, .int .i64 0])) [] := by
  subst ht; exact ⟨rfl, .inl ⟨h, rfl⟩⟩
theorem rq_f {c : Dg} (h : ¬ RO c) : RQ c (.returned (oneOrMany [.agg regZ.toArray, .int .i64 6])) [] := ⟨rfl, .inr ⟨h, rfl⟩⟩
theorem g46 (c : Dg) : getN ((S c).extract 64 68) = eC c := by unfold eC; rfl
theorem g68 (c : Dg) : getN ((S c).extract 68 76) = iC c := by unfold iC; rfl
/-- A block's cells, spelled out or as a row: the same. -/
theorem St_swap {A L R : List Blk} {w0 w : World} {n : Nat} {o o' : BO} (h : St A w0 w (L ++ ⟨n, o⟩ :: R)) (hr : (⟨n, o⟩ : Blk).ro = (⟨n, o'⟩ : Blk).ro) (hh : (⟨n, o⟩ : Blk).holds w → (⟨n, o'⟩ : Blk).holds w) : St A w0 w (L ++ ⟨n, o'⟩ :: R) := by
  refine ⟨h.os, h.tape, h.output, h.size, h.keep, fun b hb => ?_, fun b hb => ?_, ?_⟩
  · rcases List.mem_append.1 hb with hb | hb
    · exact h.has b (List.mem_append.2 (.inl hb))
    · rcases List.mem_cons.1 hb with rfl | hb
      · exact hh (h.has _ (List.mem_append.2 (.inr List.mem_cons_self)))
      · exact h.has b (List.mem_append.2 (.inr (List.mem_cons_of_mem _ hb)))
  · rcases List.mem_append.1 hb with hb | hb
    · exact h.own b (List.mem_append.2 (.inl hb))
    · rcases List.mem_cons.1 hb with rfl | hb
      · have := h.own ⟨n, o⟩ (List.mem_append.2 (.inr List.mem_cons_self))
        rw [hr] at this; exact this
      · exact h.own b (List.mem_append.2 (.inr (List.mem_cons_of_mem _ hb)))
  · have hp := List.pairwise_append.1 h.apart
    have hc := List.pairwise_cons.1 hp.2.1
    refine List.pairwise_append.2 ⟨hp.1, List.pairwise_cons.2 ⟨fun b hb e => ?_, hc.2⟩, fun a ha b hb => ?_⟩
    · have := hc.1 b hb e; rw [hr] at this; exact this
    · rcases List.mem_cons.1 hb with rfl | hb
      · intro e; have := hp.2.2 a ha ⟨n, o⟩ List.mem_cons_self e; rw [hr] at this; exact this
      · exact hp.2.2 a ha b (List.mem_cons_of_mem _ hb)
theorem to_row (n : Nat) {P : Program} {c : Code} {fr : List Value} {M : List Blk} {K : Ks} {cs cs' : List Value} {t : TypeId} {f : Blk → List Blk} [z : Zip M n (.cells cs t) f] (he : cs = cs') (h : CodeW P c fr (f ⟨n, .row cs' t⟩) K) : CodeW P c fr M K := by
  subst he
  obtain ⟨L, R, e1, e2⟩ := z.out
  rw [e2] at h
  subst e1
  exact ⟨fun A w0 w ds st => h.out A w0 w ds (St_swap st rfl (fun hh => hh))⟩
theorem to_cells (n : Nat) {P : Program} {c : Code} {fr : List Value} {M : List Blk} {K : Ks} {cs cs' : List Value} {t : TypeId} {f : Blk → List Blk} [z : Zip M n (.row cs t) f] (he : cs = cs') (h : CodeW P c fr (f ⟨n, .cells cs' t⟩) K) : CodeW P c fr M K := by
  subst he
  obtain ⟨L, R, e1, e2⟩ := z.out
  rw [e2] at h
  subst e1
  exact ⟨fun A w0 w ds st => h.out A w0 w ds (St_swap st rfl (fun hh => hh))⟩
/-- The cells behind i rounds. -/
def cA (c : Dg) (i : Nat) : List Value := (List.range 64).map (fun k => Value.int .u8 (if k % 32 < i then ((c k).toNat : Int) else 0)) ++ [.int .i64 0, .int .i64 0, .int .i64 0, .int .i64 0, .int .i64 0, .int .i64 0, .int .i64 0, .int .i64 0, .bool false]
theorem cA_next (c : Dg) {i : Nat} (hi : i < 32) : ((cA c i).set i (.int .u8 ((c i).toNat : Int))).set (32 + i) (.int .u8 ((c (32 + i)).toNat : Int)) = cA c (i + 1) := by
  apply List.ext_getElem?
  intro k
  unfold cA
  have hl : ((List.range 64).map (fun k => Value.int .u8 (if k % 32 < i then ((c k).toNat : Int) else 0))).length = 64 := by simp
  have hl' : ((List.range 64).map (fun k => Value.int .u8 (if k % 32 < i + 1 then ((c k).toNat : Int) else 0))).length = 64 := by simp
  have hL : ∀ (l m : List Value), k < l.length → (l ++ m)[k]? = l[k]? := fun l m h => List.getElem?_append_left h
  have hR : ∀ (l m : List Value), l.length ≤ k → (l ++ m)[k]? = m[k - l.length]? := fun l m h => List.getElem?_append_right h
  by_cases hk : k < 64
  · conv => rhs; rw [hL _ _ (by rw [hl']; exact hk), List.getElem?_map, List.getElem?_range hk]
    rw [List.getElem?_set]
    by_cases e1 : 32 + i = k
    · subst e1
      rw [if_pos rfl, if_pos (by rw [List.length_set, List.length_append, hl]; omega)]
      have : (32 + i) % 32 < i + 1 := by omega
      show _ = some (Value.int IntKind.u8 (if (32 + i) % 32 < i + 1 then ((c (32 + i)).toNat : Int) else 0))
      rw [if_pos this]
    · rw [if_neg e1, List.getElem?_set]
      by_cases e2 : i = k
      · subst e2
        rw [if_pos rfl, if_pos (by rw [List.length_append, hl]; omega)]
        have : i % 32 < i + 1 := by omega
        simp [this]
      · rw [if_neg e2, hL _ _ (by rw [hl]; exact hk), List.getElem?_map, List.getElem?_range hk]
        have : (k % 32 < i + 1) ↔ (k % 32 < i) := by omega
        simp [this]
  · conv => rhs; rw [hR _ _ (by rw [hl']; omega), hl']
    rw [List.getElem?_set, if_neg (by omega), List.getElem?_set, if_neg (by omega), hR _ _ (by rw [hl]; omega), hl]
theorem cA_len (c : Dg) (i : Nat) : (cA c i).length = 73 := by unfold cA; simp
theorem cA_0 (c : Dg) : regZ = cA c 0 := by
  unfold cA; rfl
theorem cA_32 (c : Dg) : cA c 32 = dV c ++ dV (bD c) ++ [.int .i64 0, .int .i64 0, .int .i64 0, .int .i64 0, .int .i64 0, .int .i64 0, .int .i64 0, .int .i64 0, .bool false] := by
  unfold cA; rfl
attribute [local irreducible] cA
set_option maxHeartbeats 16000000 in
theorem rget (c : Dg) (hz : ¬ S c = str (List.replicate 96 0)) : Fnc Try.prog 25 [.string (S c)] [] (RQ c) := by
  have hs := S_size c
  have bd := fC_bd c
  have zs := zeros96
  generalize hz0 : str (List.replicate 96 0) = z0 at *
  have b82 := bd 82
  have b83 := bd 83
  have b76 := bd 76
  have b77 := bd 77
  have b78 := bd 78
  have b79 := bd 79
  have b80 := bd 80
  have b81 := bd 81
  clear bd
  refine fn_intro Try.func25 (by kernel_rfl) ?_
  repeat' ((conv => whnf); first
      | refine call_val zs ?_
      | refine ld1_lit ?_
      | refine ldN_lit ?_
      | refine nw (fun n => ?_)
      | refine st_lit rfl ?_
      | refine need (by first | rfl | omega) ?_
      | (refine wr (fun z hz => ?_); (try rw [Int.tdiv_eq_ediv_of_nonneg (by omega)] at hz); rw [w64 (by omega) (by omega)] at hz; subst hz)
      | (refine zv (fun z hz => ?_); (try rw [Int.tmod_eq_emod_of_nonneg (by omega)] at hz); subst hz)
      | (refine ifs (fun h => ?_) (fun h => ?_) <;> (try (exfalso; first | omega | with_reducible contradiction | with_reducible exact h rfl))))
  rename_i n0 _
  refine to_row n (cA_0 c) ?_
  refine loop_rule [5] (fun vs M m => ∃ i : Nat, vs = [.int .i64 i] ∧ i ≤ 32 ∧ m = 32 - i ∧ M = [⟨n, .row (cA c i) 41⟩, ⟨n0, .cells regZ 41⟩]) rfl ?_ ?_
  · exact fin_all ⟨_, 0, rfl, by omega, rfl, rfl⟩
  rintro vs junk M' m ⟨i, rfl, hi, rfl, rfl⟩
  have hlen := cA_len c
  have hfC : ∀ k, fC c k = ((c k).toNat : Int) := fun k => by unfold fC; rfl
  repeat' ((conv => whnf); first
      | (refine nv (fun z hz => ?_); (try simp at hz); replace hz := hz.symm; subst hz)
      | (refine zv (fun z hz => ?_); (first | rw [show Int.toNat (i : Int) = i by omega] at hz | rw [show Int.toNat ((32 : Int) + (i : Int)) = 32 + i by omega] at hz); rw [bS c (by omega), hfC] at hz; subst hz)
      | refine st_row rfl (by first | (rw [hlen]; omega) | (rw [List.length_set, hlen]; omega)) ?_
      | refine ld1_lit ?_
      | refine ldN_lit ?_
      | refine nw (fun n => ?_)
      | refine st_lit rfl ?_
      | refine need (by first | rfl | omega) ?_
      | (refine wr (fun z hz => ?_); (try rw [Int.tdiv_eq_ediv_of_nonneg (by omega)] at hz); rw [w64 (by omega) (by omega)] at hz; subst hz)
      | (refine zv (fun z hz => ?_); (try rw [Int.tmod_eq_emod_of_nonneg (by omega)] at hz); subst hz)
      | (refine ifs (fun h => ?_) (fun h => ?_) <;> (try (exfalso; first | omega | with_reducible contradiction | with_reducible exact h rfl))))
  · (conv => whnf)
    refine ⟨rfl, fin_all ⟨32 - (i + 1), by omega, i + 1, rfl, by omega, rfl, ?_⟩⟩
    rw [cA_next c (by omega)]
  obtain rfl : i = 32 := by omega
  rw [cA_32]
  repeat' ((conv => whnf); first
      | (refine nv (fun z hz => ?_); (try simp at hz); replace hz := hz.symm; subst hz)
      | (refine sv (fun z hz => ?_); (try rw [show ((S c).size : Int).toNat = 96 by omega] at hz); simp only [Int.reduceToNat] at hz; subst hz)
      | (refine call_val (get01 _) ?_; first | rw [g46] | rw [g68])
      | refine st_row rfl (by simp) ?_
      | (refine to_cells n (cs' := regL c (bD c) (eC c) (iC c) 0 0 0 0 0 0 false) rfl ?_; refine draw_any 15 [(0, true), (1, true), (2, true), (3, true), (4, true), (5, true), (6, true), (7, true), (8, false)] [] rfl (by kernel_rfl) ?_)
      | refine draw_any 16 [(0, true), (1, true), (2, true), (3, true), (4, true), (5, true), (6, true), (7, true), (8, false)] [] rfl (by kernel_rfl) ?_
      | refine kept_nil ?_
      | (refine zv (fun z hz => ?_); simp only [Int.reduceToNat] at hz; rw [bS c (by omega)] at hz; subst hz)
      | refine ld1_lit ?_
      | refine ldN_lit ?_
      | refine nw (fun n => ?_)
      | refine st_lit rfl ?_
      | refine need (by first | rfl | omega) ?_
      | (refine wr (fun z hz => ?_); (try rw [Int.tdiv_eq_ediv_of_nonneg (by omega)] at hz); rw [w64 (by omega) (by omega)] at hz; subst hz)
      | (refine zv (fun z hz => ?_); (try rw [Int.tmod_eq_emod_of_nonneg (by omega)] at hz); subst hz)
      | (refine ifs (fun h => ?_) (fun h => ?_) <;> (try (exfalso; first | omega | with_reducible contradiction | with_reducible exact h rfl))))
  · have ht : tC c = true := tC_t ‹fC c 82 = 1›
    rcases Classical.em (RR (bD c) (eC c) (iC c) (fC c 76) (fC c 78) (fC c 77) (fC c 79) (fC c 80) (fC c 81) true) with hR | hR
    all_goals (conv => whnf)
    all_goals refine draw_quiet rfl (by kernel_rfl) ?_
    · repeat' ((conv => whnf); first
        | (refine zv (fun z hz => ?_); simp only [Int.reduceToNat] at hz; rw [bS c (by omega)] at hz; subst hz)
        | (refine sv (fun z hz => ?_); rw [show ((S c).size : Int).toNat = 96 by omega] at hz; simp only [Int.reduceToNat] at hz; subst hz)
        | refine qcall_val zeros12 ?_
        | refine qldN_lit ?_
        | refine qcall_val (right_t c hR) ?_
        | refine ld1_lit ?_
        | refine ldN_lit ?_
        | refine nw (fun n => ?_)
        | refine st_lit rfl ?_
        | refine need (by first | rfl | omega) ?_
        | (refine wr (fun z hz => ?_); (try rw [Int.tdiv_eq_ediv_of_nonneg (by omega)] at hz); rw [w64 (by omega) (by omega)] at hz; subst hz)
        | (refine zv (fun z hz => ?_); (try rw [Int.tmod_eq_emod_of_nonneg (by omega)] at hz); subst hz)
        | (refine ifs (fun h => ?_) (fun h => ?_) <;> (try (exfalso; first | omega | with_reducible contradiction | with_reducible exact h rfl))))
      all_goals (conv => whnf)
      all_goals first
        | (have q1 : ¬ getE ((S c).extract 68 76) = 0 := (by assumption); exact fin_nil (rq_f (fun h => q1 h.iv)))
        | (have q1 : 1 < fC c 82 := (by assumption); exact fin_nil (rq_f (fun h => by have h1 := h.at'; omega)))
        | (have q1 : ¬ fC c 83 = 103 := (by assumption); exact fin_nil (rq_f (fun h => q1 h.m3)))
        | (have q1 : ¬ (S c).extract 84 96 = str (List.replicate 12 0) := (by assumption); exact fin_nil (rq_f (fun h => q1 h.ze)))
        | (have q1 : getE ((S c).extract 68 76) = 0 := (by assumption); have q2 : (S c).extract 84 96 = str (List.replicate 12 0) := (by assumption); have q3 : RO c := ⟨q1, by omega, by omega, q2, by rw [ht]; exact hR⟩; exact fin_nil (rq_t q3 ht))
    · repeat' ((conv => whnf); first
        | (refine zv (fun z hz => ?_); simp only [Int.reduceToNat] at hz; rw [bS c (by omega)] at hz; subst hz)
        | (refine sv (fun z hz => ?_); rw [show ((S c).size : Int).toNat = 96 by omega] at hz; simp only [Int.reduceToNat] at hz; subst hz)
        | refine qcall_val zeros12 ?_
        | refine qldN_lit ?_
        | refine qcall_val (right_f c hR) ?_
        | refine ld1_lit ?_
        | refine ldN_lit ?_
        | refine nw (fun n => ?_)
        | refine st_lit rfl ?_
        | refine need (by first | rfl | omega) ?_
        | (refine wr (fun z hz => ?_); (try rw [Int.tdiv_eq_ediv_of_nonneg (by omega)] at hz); rw [w64 (by omega) (by omega)] at hz; subst hz)
        | (refine zv (fun z hz => ?_); (try rw [Int.tmod_eq_emod_of_nonneg (by omega)] at hz); subst hz)
        | (refine ifs (fun h => ?_) (fun h => ?_) <;> (try (exfalso; first | omega | with_reducible contradiction | with_reducible exact h rfl))))
      all_goals (conv => whnf)
      all_goals exact fin_nil (rq_f (fun h => hR (by rw [← ht]; exact h.rr)))
  · have ht : tC c = false := tC_f ‹¬ fC c 82 = 1›
    rcases Classical.em (RR (bD c) (eC c) (iC c) (fC c 76) (fC c 78) (fC c 77) (fC c 79) (fC c 80) (fC c 81) false) with hR | hR
    all_goals (conv => whnf)
    all_goals refine draw_quiet rfl (by kernel_rfl) ?_
    · repeat' ((conv => whnf); first
        | (refine zv (fun z hz => ?_); simp only [Int.reduceToNat] at hz; rw [bS c (by omega)] at hz; subst hz)
        | (refine sv (fun z hz => ?_); rw [show ((S c).size : Int).toNat = 96 by omega] at hz; simp only [Int.reduceToNat] at hz; subst hz)
        | refine qcall_val zeros12 ?_
        | refine qldN_lit ?_
        | refine qcall_val (right_t c hR) ?_
        | refine ld1_lit ?_
        | refine ldN_lit ?_
        | refine nw (fun n => ?_)
        | refine st_lit rfl ?_
        | refine need (by first | rfl | omega) ?_
        | (refine wr (fun z hz => ?_); (try rw [Int.tdiv_eq_ediv_of_nonneg (by omega)] at hz); rw [w64 (by omega) (by omega)] at hz; subst hz)
        | (refine zv (fun z hz => ?_); (try rw [Int.tmod_eq_emod_of_nonneg (by omega)] at hz); subst hz)
        | (refine ifs (fun h => ?_) (fun h => ?_) <;> (try (exfalso; first | omega | with_reducible contradiction | with_reducible exact h rfl))))
      all_goals (conv => whnf)
      all_goals first
        | (have q1 : ¬ getE ((S c).extract 68 76) = 0 := (by assumption); exact fin_nil (rq_f (fun h => q1 h.iv)))
        | (have q1 : 1 < fC c 82 := (by assumption); exact fin_nil (rq_f (fun h => by have h1 := h.at'; omega)))
        | (have q1 : ¬ fC c 83 = 103 := (by assumption); exact fin_nil (rq_f (fun h => q1 h.m3)))
        | (have q1 : ¬ (S c).extract 84 96 = str (List.replicate 12 0) := (by assumption); exact fin_nil (rq_f (fun h => q1 h.ze)))
        | (have q1 : getE ((S c).extract 68 76) = 0 := (by assumption); have q2 : (S c).extract 84 96 = str (List.replicate 12 0) := (by assumption); have q3 : RO c := ⟨q1, by omega, by omega, q2, by rw [ht]; exact hR⟩; exact fin_nil (rq_t q3 ht))
    · repeat' ((conv => whnf); first
        | (refine zv (fun z hz => ?_); simp only [Int.reduceToNat] at hz; rw [bS c (by omega)] at hz; subst hz)
        | (refine sv (fun z hz => ?_); rw [show ((S c).size : Int).toNat = 96 by omega] at hz; simp only [Int.reduceToNat] at hz; subst hz)
        | refine qcall_val zeros12 ?_
        | refine qldN_lit ?_
        | refine qcall_val (right_f c hR) ?_
        | refine ld1_lit ?_
        | refine ldN_lit ?_
        | refine nw (fun n => ?_)
        | refine st_lit rfl ?_
        | refine need (by first | rfl | omega) ?_
        | (refine wr (fun z hz => ?_); (try rw [Int.tdiv_eq_ediv_of_nonneg (by omega)] at hz); rw [w64 (by omega) (by omega)] at hz; subst hz)
        | (refine zv (fun z hz => ?_); (try rw [Int.tmod_eq_emod_of_nonneg (by omega)] at hz); subst hz)
        | (refine ifs (fun h => ?_) (fun h => ?_) <;> (try (exfalso; first | omega | with_reducible contradiction | with_reducible exact h rfl))))
      all_goals (conv => whnf)
      all_goals exact fin_nil (rq_f (fun h => hR (by rw [← ht]; exact h.rr)))
end Go.Proofs.Ytjlgbihllijpbab.Reg
