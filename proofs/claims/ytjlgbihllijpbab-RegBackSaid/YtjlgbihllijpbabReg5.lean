/- reg.Get. -/
import Derived.Test.YtjlgbihllijpbabRegM3
import Derived.Test.YtjlgbihllijpbabReg2
import Derived.Test.YtjlgbihllijpbabEu
namespace Go.Proofs.Ytjlgbihllijpbab.Reg
open Go Ev Be Geom
set_option linter.unusedVariables false
set_option linter.unusedSimpArgs false
set_option maxRecDepth 100000
theorem S_str (c : Dg) : str (L96 c) = S c := rfl
theorem tC_t {c : Dg} (h : fC c 82 = 1) : tC c = true := decide_eq_true h
theorem tC_f {c : Dg} (h : ¬ fC c 82 = 1) : tC c = false := decide_eq_false h
attribute [local irreducible] convert Builtin.copy_ Builtin.append_ Instr.makeSlice
attribute [local irreducible] S layL eC iC fC putS putE nuN nuA byS byE byA nuE getE getN tC
theorem get_form (s : ByteArray) (h : ¬ s.size = 96) : Fnc Try.prog 24 [.string s] [] (Ret (.tuple #[.agg regZ.toArray, .int .i64 6]) []) := by
  refine fn_intro Try.func24 (by kernel_rfl) ?_
  repeat' ((conv => whnf); first
      | refine ld1_lit ?_
      | refine ldN_lit ?_
      | refine nw (fun n => ?_)
      | refine st_lit rfl ?_
      | refine need (by first | rfl | omega) ?_
      | (refine wr (fun z hz => ?_); (try rw [Int.tdiv_eq_ediv_of_nonneg (by omega)] at hz); rw [w64 (by omega) (by omega)] at hz; subst hz)
      | (refine zv (fun z hz => ?_); (try rw [Int.tmod_eq_emod_of_nonneg (by omega)] at hz); subst hz)
      | (refine ifs (fun h => ?_) (fun h => ?_) <;> (try (exfalso; first | omega | with_reducible contradiction | with_reducible exact h rfl)))
      | refine fin_nil ⟨?_, rfl⟩)
  all_goals rfl
theorem get_fmt : Fnc Try.prog 24 [.string (str (List.replicate 96 0))] [] (Ret (.tuple #[.agg regZ.toArray, .int .i64 19]) []) := by
  have hz : (str (List.replicate 96 0)).size = 96 := by rw [Ev.str_size]; rfl
  generalize hs : str (List.replicate 96 0) = s at *
  refine fn_intro Try.func24 (by kernel_rfl) ?_
  repeat' ((conv => whnf); first
      | refine mk_row rfl rfl rfl rfl rfl (by omega) (by omega) (by decide) (fun g => ?_)
      | refine b2s_row (l := List.replicate 96 0) (junk := []) (by simp [u8s]) rfl rfl rfl (by simp) ?_
      | refine ld1_lit ?_
      | refine ldN_lit ?_
      | refine nw (fun n => ?_)
      | refine st_lit rfl ?_
      | refine need (by first | rfl | omega) ?_
      | (refine wr (fun z hz => ?_); (try rw [Int.tdiv_eq_ediv_of_nonneg (by omega)] at hz); rw [w64 (by omega) (by omega)] at hz; subst hz)
      | (refine zv (fun z hz => ?_); (try rw [Int.tmod_eq_emod_of_nonneg (by omega)] at hz); subst hz)
      | (refine ifs (fun h => ?_) (fun h => ?_) <;> (try (exfalso; first | omega | with_reducible contradiction | with_reducible exact h rfl)))
      | refine fin_nil ⟨?_, rfl⟩)
  all_goals first | rfl | (exfalso; exact ‹¬ s = _› hs.symm)
theorem Fnc_mono {P : Program} {f : FuncId} {args : List Value} {A : List Blk} {Q Q' : Ending → List Blk → Prop} (h : Fnc P f args A Q) (hq : ∀ e A', Q e A' → Q' e A') : Fnc P f args A Q' := by
  have := h.out
  delta Fnc
  exact ⟨this.1, fun w hm => (this.2 w hm).mono fun e w' ⟨A', s1, hk⟩ => ⟨A', s1, hq e A' hk⟩⟩
def GQ (c : Dg) (v : Nat → Int) (t : Bool) : Prop := RR (bD c) (eC c) (iC c) (v 0) (v 2) (v 1) (v 3) (v 4) (v 5) t ∧ str (layL c (bD c) (eC c) (iC c) (v 0) (v 2) (v 1) (v 3) (v 4) (v 5) t) = S c
def GP (c : Dg) (v : Nat → Int) (t : Bool) : Ending → List Blk → Prop := fun e A => A = [] ∧
    ((GQ c v t ∧ e = .returned (.tuple #[.agg (regL c (bD c) (eC c) (iC c) (v 0) (v 2) (v 1) (v 3) (v 4) (v 5) t).toArray, .int .i64 0])) ∨ (¬ GQ c v t ∧ e = .returned (.tuple #[.agg regZ.toArray, .int .i64 6])))
theorem gp_t {c : Dg} {v : Nat → Int} {t : Bool} (h1 : RR (bD c) (eC c) (iC c) (v 0) (v 2) (v 1) (v 3) (v 4) (v 5) t) (h2 : str (layL c (bD c) (eC c) (iC c) (v 0) (v 2) (v 1) (v 3) (v 4) (v 5) t) = S c) :
    GP c v t (.returned (oneOrMany [.agg (regL c (bD c) (eC c) (iC c) (v 0) (v 2) (v 1) (v 3) (v 4) (v 5) t).toArray, .int .i64 0])) [] := ⟨rfl, .inl ⟨⟨h1, h2⟩, rfl⟩⟩
theorem gp_f {c : Dg} {v : Nat → Int} {t : Bool} (h : ¬ GQ c v t) : GP c v t (.returned (oneOrMany [.agg regZ.toArray, .int .i64 6])) [] := ⟨rfl, .inr ⟨h, rfl⟩⟩
set_option maxHeartbeats 8000000 in
theorem get_core (c : Dg) (hz : ¬ S c = str (List.replicate 96 0)) (p v : Nat → Int) (t : Bool) (hA : nuA (S c) 68 8 = p 0) (hm : ∀ j, j < 7 → nuN (S c) (p j) 1 = v j ∧ nuA (S c) (p j) 1 = p (j + 1)) (hp : ∀ j, j ≤ 7 → 0 ≤ p j ∧ p j ≤ 96) (ht : t = decide (v 6 = 1)) :
    Fnc Try.prog 24 [.string (S c)] [] (GP c v t) := by
  have hs := S_size c
  have b0 : byE (S c) 0 32 = 0 ∧ byS (S c) 0 32 = (S c).extract 0 32 ∧ byA (S c) 0 32 = 32 := by_at (by omega) (by omega) (by omega)
  have b1 : byE (S c) 32 32 = 0 ∧ byS (S c) 32 32 = (S c).extract 32 64 ∧ byA (S c) 32 32 = 64 := by_at (by omega) (by omega) (by omega)
  have n64 := num_e c
  have n68 := num_i c
  have m0 := hm 0 (by omega)
  have m1 := hm 1 (by omega)
  have m2 := hm 2 (by omega)
  have m3 := hm 3 (by omega)
  have m4 := hm 4 (by omega)
  have m5 := hm 5 (by omega)
  have m6 := hm 6 (by omega)
  have q0 := hp 0 (by omega)
  have q1 := hp 1 (by omega)
  have q2 := hp 2 (by omega)
  have q3 := hp 3 (by omega)
  have q4 := hp 4 (by omega)
  have q5 := hp 5 (by omega)
  have q6 := hp 6 (by omega)
  simp only [Nat.reduceAdd] at m0 m1 m2 m3 m4 m5 m6
  have p0 := cp0 c
  have p1 := cp1 c
  clear hm hp
  refine fn_intro Try.func24 (by kernel_rfl) ?_
  repeat' ((conv => whnf); first
      | refine mk_row rfl rfl rfl rfl rfl (by omega) (by omega) (by decide) (fun g => ?_)
      | refine b2s_row (l := List.replicate 96 0) (junk := []) (by simp [u8s]) rfl rfl rfl (by simp) ?_
      | (refine call_fn (Be.read _) .nil (fun e A' hq => ?_); obtain ⟨r, h1, h2⟩ := hq; subst h1; subst h2)
      | refine loop_n 3 ?_
      | (refine nv (fun z hz => ?_); (try simp at hz); subst hz)
      | (refine call_ret (Be.bytes _ _ 0 32 (by omega) (by omega) (by omega)) (.cons .here .nil) ?_; rw [b0.1, b0.2.1, b0.2.2])
      | (refine call_ret (Be.bytes _ _ 32 32 (by omega) (by omega) (by omega)) (.cons .here .nil) ?_; rw [b1.1, b1.2.1, b1.2.2])
      | (refine copy_str (n := 32) rfl rfl rfl (by rw [ByteArray.size_extract, hs]; rfl) (by decide) ?_; first | rw [p0] | rw [p1])
      | (refine call_ret (Be.num _ _ 64 4 (by omega) (by omega) (by omega)) (.cons .here .nil) ?_; rw [n64.1, n64.2])
      | (refine call_ret (Be.num _ _ 68 8 (by omega) (by omega) (by omega)) (.cons .here .nil) ?_; rw [n68, hA])
      | (refine call_ret (Be.num _ _ (p 0) 1 (by omega) (by omega) (by omega)) (.cons .here .nil) ?_; rw [m0.1, m0.2])
      | (refine call_ret (Be.num _ _ (p 1) 1 (by omega) (by omega) (by omega)) (.cons .here .nil) ?_; rw [m1.1, m1.2])
      | (refine call_ret (Be.num _ _ (p 2) 1 (by omega) (by omega) (by omega)) (.cons .here .nil) ?_; rw [m2.1, m2.2])
      | (refine call_ret (Be.num _ _ (p 3) 1 (by omega) (by omega) (by omega)) (.cons .here .nil) ?_; rw [m3.1, m3.2])
      | (refine call_ret (Be.num _ _ (p 4) 1 (by omega) (by omega) (by omega)) (.cons .here .nil) ?_; rw [m4.1, m4.2])
      | (refine call_ret (Be.num _ _ (p 5) 1 (by omega) (by omega) (by omega)) (.cons .here .nil) ?_; rw [m5.1, m5.2])
      | (refine call_ret (Be.num _ _ (p 6) 1 (by omega) (by omega) (by omega)) (.cons .here .nil) ?_; rw [m6.1, m6.2])
      | refine ld1_lit ?_
      | refine ldN_lit ?_
      | refine nw (fun n => ?_)
      | refine st_lit rfl ?_
      | refine need (by first | rfl | omega) ?_
      | (refine wr (fun z hz => ?_); (try rw [Int.tdiv_eq_ediv_of_nonneg (by omega)] at hz); rw [w64 (by omega) (by omega)] at hz; subst hz)
      | (refine zv (fun z hz => ?_); (try rw [Int.tmod_eq_emod_of_nonneg (by omega)] at hz); subst hz)
      | (refine ifs (fun h => ?_) (fun h => ?_) <;> (try (exfalso; first | omega | with_reducible contradiction | with_reducible exact h rfl))))
  · obtain rfl : t = true := by rw [ht]; exact decide_eq_true ‹v 6 = 1›
    rcases Classical.em (RR (bD c) (eC c) (iC c) (v 0) (v 2) (v 1) (v 3) (v 4) (v 5) true) with hR | hR
    all_goals repeat' ((conv => whnf); first
        | refine call_val (put_t c hR) ?_
        | refine call_val (put_f c hR) ?_
        | exact fin_nil (gp_t hR ‹str _ = _›)
        | exact fin_nil (gp_f (fun hq => ‹¬ str _ = _› hq.2))
        | exact fin_nil (gp_f (fun hq => hR hq.1))
        | refine ld1_lit ?_
        | refine ldN_lit ?_
        | refine nw (fun n => ?_)
        | refine st_lit rfl ?_
        | refine need (by first | rfl | omega) ?_
        | (refine wr (fun z hz => ?_); (try rw [Int.tdiv_eq_ediv_of_nonneg (by omega)] at hz); rw [w64 (by omega) (by omega)] at hz; subst hz)
        | (refine zv (fun z hz => ?_); (try rw [Int.tmod_eq_emod_of_nonneg (by omega)] at hz); subst hz)
        | (refine ifs (fun h => ?_) (fun h => ?_) <;> (try (exfalso; first | omega | with_reducible contradiction | with_reducible exact h rfl))))
  · obtain rfl : t = false := by rw [ht]; exact decide_eq_false ‹¬ v 6 = 1›
    rcases Classical.em (RR (bD c) (eC c) (iC c) (v 0) (v 2) (v 1) (v 3) (v 4) (v 5) false) with hR | hR
    all_goals repeat' ((conv => whnf); first
        | refine call_val (put_t c hR) ?_
        | refine call_val (put_f c hR) ?_
        | exact fin_nil (gp_t hR ‹str _ = _›)
        | exact fin_nil (gp_f (fun hq => ‹¬ str _ = _› hq.2))
        | exact fin_nil (gp_f (fun hq => hR hq.1))
        | refine ld1_lit ?_
        | refine ldN_lit ?_
        | refine nw (fun n => ?_)
        | refine st_lit rfl ?_
        | refine need (by first | rfl | omega) ?_
        | (refine wr (fun z hz => ?_); (try rw [Int.tdiv_eq_ediv_of_nonneg (by omega)] at hz); rw [w64 (by omega) (by omega)] at hz; subst hz)
        | (refine zv (fun z hz => ?_); (try rw [Int.tmod_eq_emod_of_nonneg (by omega)] at hz); subst hz)
        | (refine ifs (fun h => ?_) (fun h => ?_) <;> (try (exfalso; first | omega | with_reducible contradiction | with_reducible exact h rfl))))

theorem get_good (c : Dg) (hz : ¬ S c = str (List.replicate 96 0)) (hE : getE ((S c).extract 68 76) = 0) : Fnc Try.prog 24 [.string (S c)] [] (GP c (fun j => fC c (76 + j)) (tC c)) := by
  refine get_core c hz (fun j => ((76 + j : Nat) : Int)) (fun j => fC c (76 + j)) (tC c) (num_iA c hE) (fun j hj => ?_) (fun j hj => by omega) ?_
  · exact num1 c (k := 76 + j) (by omega)
  · unfold tC; rfl
theorem get_bad (c : Dg) (hz : ¬ S c = str (List.replicate 96 0)) (hE : ¬ getE ((S c).extract 68 76) = 0) : Fnc Try.prog 24 [.string (S c)] [] (GP c (fun j => fC c (68 + j)) (decide (fC c 74 = 1))) := by
  refine get_core c hz (fun j => ((68 + j : Nat) : Int)) (fun j => fC c (68 + j)) _ (num_iB c hE) (fun j hj => ?_) (fun j hj => by omega) rfl
  exact num1 c (k := 68 + j) (by omega)
theorem get_yes (c : Dg) (h : GO c) : Fnc Try.prog 24 [.string (S c)] [] (Ret (.tuple #[.agg (regL c (bD c) (eC c) (iC c) (fC c 76) (fC c 78) (fC c 77) (fC c 79) (fC c 80) (fC c 81) (tC c)).toArray, .int .i64 0]) []) := by
  refine Fnc_mono (get_good c (go_nz c h) h.iv) fun e A hq => ?_
  obtain ⟨rfl, h1⟩ := hq
  rcases h1 with ⟨_, h2⟩ | ⟨h1, _⟩
  · exact ⟨h2, rfl⟩
  · exact absurd ⟨h.rr, h.eq⟩ h1
theorem get_no (c : Dg) (hz : ¬ S c = str (List.replicate 96 0)) (h : ¬ GO c) : Fnc Try.prog 24 [.string (S c)] [] (Ret (.tuple #[.agg regZ.toArray, .int .i64 6]) []) := by
  by_cases hE : getE ((S c).extract 68 76) = 0
  · refine Fnc_mono (get_good c hz hE) fun e A hq => ?_
    obtain ⟨rfl, h1⟩ := hq
    rcases h1 with ⟨h1, _⟩ | ⟨_, h2⟩
    · exact absurd ⟨hE, h1.1, h1.2⟩ h
    · exact ⟨h2, rfl⟩
  · refine Fnc_mono (get_bad c hz hE) fun e A hq => ?_
    obtain ⟨rfl, h1⟩ := hq
    rcases h1 with ⟨h1, _⟩ | ⟨_, h2⟩
    · have h3 := h1.2
      rw [iC_bad c hE] at h3
      exact absurd h3 (lay_bad c hE _ _ _ _ _ _ _ _ _)
    · exact ⟨h2, rfl⟩
end Go.Proofs.Ytjlgbihllijpbab.Reg
