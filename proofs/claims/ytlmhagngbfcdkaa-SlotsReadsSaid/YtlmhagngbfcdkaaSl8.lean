/- The law's take. -/
import Derived.Test.YtlmhagngbfcdkaaSl7
namespace Go.Proofs.Ytlmhagngbfcdkaa.Slots
open Go Ev Be
set_option linter.unusedVariables false
set_option linter.unusedSimpArgs false
set_option maxRecDepth 100000
/-- What is dirty is valid; a free slot has nothing. -/
def nice (x : Sl10) : Prop := (∀ p, p < 4 → x.d p = true → x.v p = true) ∧ (x.g < 0 → (∀ p, p < 4 → x.v p = false) ∧ x.lv = 0)
def Good (q : Nat) (s : Nat → Sl10) : Prop := (∀ j, q ≤ j → s j = freeS) ∧ (∀ j, j < 8 → okS (s j)) ∧ (∀ j, j < 8 → nice (s j)) ∧ ∀ i j, i < 8 → j < 8 → j ≠ i → 0 ≤ (s i).g → (s j).g ≠ (s i).g
/-- A slot that may be put at i. -/
def okX (s : Nat → Sl10) (i : Nat) (x : Sl10) : Prop := okS x ∧ nice x ∧ (0 ≤ x.g → ∀ j, j < 8 → j ≠ i → (s j).g ≠ x.g)
theorem Good.upd {q i : Nat} {s : Nat → Sl10} {x : Sl10} (h : Good q s) (hi : i < q) (hx : okX s i x) : Good q (upd s i x) := by
  refine ⟨fun j hj => ?_, fun j hj => ?_, fun j hj => ?_, fun a b ha hb hab h0 => ?_⟩
  · show (if j = i then x else s j) = _
    rw [if_neg (by omega)]; exact h.1 j hj
  · show okS (if j = i then x else s j)
    split
    · exact hx.1
    · exact h.2.1 j hj
  · show nice (if j = i then x else s j)
    split
    · exact hx.2.1
    · exact h.2.2.1 j hj
  · change 0 ≤ (if a = i then x else s a).g at h0
    show (if b = i then x else s b).g ≠ (if a = i then x else s a).g
    by_cases e1 : a = i
    · rw [if_pos e1] at h0 ⊢
      rw [if_neg (by omega)]
      exact hx.2.2 h0 b hb (by omega)
    · rw [if_neg e1] at h0 ⊢
      by_cases e2 : b = i
      · rw [if_pos e2]
        intro he
        exact hx.2.2 (by omega) a ha e1 he.symm
      · rw [if_neg e2]
        exact h.2.2.2 a b ha hb hab h0
theorem okS_free : okS freeS := by unfold okS freeS; simp
theorem nice_free : nice freeS := ⟨fun p _ h => (by cases h), fun _ => ⟨fun _ _ => rfl, rfl⟩⟩
theorem ok_free {s : Nat → Sl10} {i : Nat} : okX s i freeS := ⟨okS_free, nice_free, fun h => by have : freeS.g = -1 := rfl; omega⟩
/-- A group's slot is among the first q. -/
theorem isF_less {q k : Nat} {s : Nat → Sl10} {g : Int} (hG : Good q s) (hq : q ≤ 8) (hg : 0 ≤ g) (h : IsF (fun j => (s j).g = g) 8 k) (hk : k < 8) : IsF (fun j => (s j).g = g ∧ 0 ≤ g) q k ∧ k < q := by
  have hkq : k < q := by
    by_cases hc : k < q
    · exact hc
    · have h1 := h.2.2 hk
      simp only [hG.1 k (by omega)] at h1
      have : freeS.g = -1 := rfl
      omega
  exact ⟨⟨by omega, fun j hj hc => h.2.1 j hj hc.1, fun _ => ⟨h.2.2 hk, hg⟩⟩, hkq⟩
theorem isF_none {q : Nat} {s : Nat → Sl10} {g : Int} (hq : q ≤ 8) (h : IsF (fun j => (s j).g = g) 8 8) : IsF (fun j => (s j).g = g ∧ 0 ≤ g) q q :=
  ⟨Nat.le_refl _, fun j hj hc => h.2.1 j (by omega) hc.1, fun hc => absurd hc (by omega)⟩
theorem ok_take {i : Nat} {s : Nat → Sl10} {g : Int} (h0 : 0 ≤ g) (h1 : g ≤ 15) (h : IsF (fun j => (s j).g = g) 8 8) : okX s i (takeS g) :=
  ⟨by unfold okS takeS; simp; omega, ⟨fun p _ h => (by cases h), fun _ => ⟨fun _ _ => rfl, rfl⟩⟩, fun _ j hj _ => h.2.1 j hj⟩
/-- What a call leaves: all as it was, or another table and a new list; the old list stays. -/
def DoQ (r q g cap : Nat) (s : Nat → Sl10) (junk : List Value) : Ending → List Blk → Prop := fun e A => ∃ s' g' cap' junk', Good q s' ∧ e = .returned (.tuple #[lv g' q cap', .bool true]) ∧ ((s' = s ∧ g' = g ∧ cap' = cap ∧ junk' = junk ∧ A = [tB r q s, lb g q s junk]) ∨ A = [tB r q s', lb g' q s' junk', lb g q s junk])
theorem fin_do {M : List Blk} {r q g cap : Nat} {s : Nat → Sl10} {junk : List Value} {R' : List Blk} (ht : Takes M [tB r q s, lb g q s junk] R') (hG : Good q s) : Ev.Fin M (DoQ r q g cap s junk (.returned (oneOrMany [lv g q cap, .bool true]))) :=
  fin_pick ht ⟨s, g, cap, junk, hG, rfl, .inl ⟨rfl, rfl, rfl, rfl, rfl⟩⟩
theorem fin_new {M : List Blk} {r q g cap g' cap' : Nat} {s s' : Nat → Sl10} {junk junk' : List Value} {R' : List Blk} (ht : Takes M [tB r q s', lb g' q s' junk', lb g q s junk] R') (hG : Good q s') : Ev.Fin M (DoQ r q g cap s junk (.returned (oneOrMany [lv g' q cap', .bool true]))) :=
  fin_pick ht ⟨s', g', cap', junk', hG, rfl, .inr rfl⟩
/-- A contract that tells less of memory. -/
theorem Fnc_drop {P : Program} {f : FuncId} {args : List Value} {A : List Blk} {Q Q' : Ending → List Blk → Prop} (h : Fnc P f args A Q) (hq : ∀ e A', Q e A' → Ev.Fin A' (Q' e)) : Fnc P f args A Q' := by
  have := h.out
  delta Fnc
  exact ⟨this.1, fun w hm => (this.2 w hm).mono fun e w' ⟨A', s1, hk⟩ => fin_out s1 (hq e A' hk)⟩
attribute [local irreducible] rl tc bu biX rowI rowE rowS padE padS by1 pw full convert Builtin.copy_ Builtin.append_ Instr.makeSlice
set_option maxHeartbeats 2000000 in
theorem take (r g q cap : Nat) (s : Nat → Sl10) (junk : List Value) (grp : Int) (hq : q ≤ 8) (hG : Good q s) :
    Fnc Try.prog 27 [pt r, lv g q cap, .int .i64 grp] [tB r q s, lb g q s junk] (DoQ r q g cap s junk) := by
  by_cases hr : grp < 0 ∨ 15 < grp
  · refine fn_intro Try.func27 (by kernel_rfl) ?_
    repeat' ((conv => whnf); first
        | refine call_ret (take_range r q s grp hr) (.cons .here .nil) ?_
        | exact fin_do (.cons .here (.cons .here .nil)) hG
        | refine ld1_lit ?_
        | refine ldN_lit ?_
        | refine nw (fun n => ?_)
        | refine st_lit rfl ?_
        | refine need (by first | rfl | omega) ?_
        | (refine wr (fun z hz => ?_); (try rw [Int.tdiv_eq_ediv_of_nonneg (by omega)] at hz); rw [w64 (by omega) (by omega)] at hz; subst hz)
        | (refine zv (fun z hz => ?_); (try rw [Int.tmod_eq_emod_of_nonneg (by omega)] at hz); subst hz)
        | (refine ifs (fun h => ?_) (fun h => ?_) <;> (try (exfalso; first | omega | with_reducible contradiction | with_reducible exact h rfl))))
  · obtain ⟨k8, h8⟩ := isF_ex (fun j => (s j).g = grp) 8
    by_cases hk8 : k8 < 8
    · obtain ⟨hn, hkq⟩ := isF_less hG hq (by omega) h8 hk8
      have hf := rfind g q cap s junk grp hq k8 hn
      rw [if_pos hkq] at hf
      refine fn_intro Try.func27 (by kernel_rfl) ?_
      repeat' ((conv => whnf); first
          | refine call_ret (take_exist r q s grp (by omega) (by omega) k8 h8 hk8) (.cons .here .nil) ?_
          | refine call_ret hf (.cons (.there .here) .nil) ?_
          | exact fin_do (.cons (.there .here) (.cons .here .nil)) hG
          | refine ld1_lit ?_
          | refine ldN_lit ?_
          | refine nw (fun n => ?_)
          | refine st_lit rfl ?_
          | refine need (by first | rfl | omega) ?_
          | (refine wr (fun z hz => ?_); (try rw [Int.tdiv_eq_ediv_of_nonneg (by omega)] at hz); rw [w64 (by omega) (by omega)] at hz; subst hz)
          | (refine zv (fun z hz => ?_); (try rw [Int.tmod_eq_emod_of_nonneg (by omega)] at hz); subst hz)
          | (refine ifs (fun h => ?_) (fun h => ?_) <;> (try (exfalso; first | omega | with_reducible contradiction | with_reducible exact h rfl))))
    · obtain rfl : k8 = 8 := by have := h8.1; omega
      have hf := rfind g q cap s junk grp hq q (isF_none hq h8)
      rw [if_neg (by omega)] at hf
      obtain ⟨kf, hkf⟩ := isF_ex (fun j => (s j).g < 0) q
      have hkfq := hkf.1
      by_cases hlt : kf < q
      · refine fn_intro Try.func27 (by kernel_rfl) ?_
        repeat' ((conv => whnf); first
            | refine call_ret (take_ok r q s hq grp (by omega) (by omega) h8 kf hkf hlt) (.cons .here .nil) ?_
            | refine call_ret hf (.cons (.there .here) .nil) ?_
            | refine loop_rule [10] (fun vs M m => ∃ i : Nat, vs = [.int .i64 i] ∧ i ≤ kf ∧ m = q - i ∧ M = [lb g q s junk, tB r q (upd s kf (takeS grp))]) rfl ?_ ?_
            | refine ld1_lit ?_
            | refine ldN_lit ?_
            | refine nw (fun n => ?_)
            | refine st_lit rfl ?_
            | refine need (by first | rfl | omega) ?_
            | (refine wr (fun z hz => ?_); (try rw [Int.tdiv_eq_ediv_of_nonneg (by omega)] at hz); rw [w64 (by omega) (by omega)] at hz; subst hz)
            | (refine zv (fun z hz => ?_); (try rw [Int.tmod_eq_emod_of_nonneg (by omega)] at hz); subst hz)
            | (refine ifs (fun h => ?_) (fun h => ?_) <;> (try (exfalso; first | omega | with_reducible contradiction | with_reducible exact h rfl))))
        · exact fin_all ⟨_, 0, rfl, by omega, rfl, rfl⟩
        rintro vs junk1 M' m ⟨i, rfl, hi, rfl, rfl⟩
        repeat' ((conv => whnf); first
            | (refine nv (fun z hz => ?_); (try simp at hz); replace hz := hz.symm; subst hz)
            | refine ld1_row (v := .int .i64 (s i).g) (ll_get' (i := i) (k := 0) (by omega) (by omega) (by omega) rfl) ?_
            | (refine call_fn (rset g q cap i s junk (takeS grp) hq (by omega)) (.cons .here .nil) (fun e A' hq' => ?_); obtain ⟨g', cap', junk', h1, h2⟩ := hq'; subst h1; subst h2)
            | refine ld1_lit ?_
            | refine ldN_lit ?_
            | refine nw (fun n => ?_)
            | refine st_lit rfl ?_
            | refine need (by first | rfl | omega) ?_
            | (refine wr (fun z hz => ?_); (try rw [Int.tdiv_eq_ediv_of_nonneg (by omega)] at hz); rw [w64 (by omega) (by omega)] at hz; subst hz)
            | (refine zv (fun z hz => ?_); (try rw [Int.tmod_eq_emod_of_nonneg (by omega)] at hz); subst hz)
            | (refine ifs (fun h => ?_) (fun h => ?_) <;> (try (exfalso; first | omega | with_reducible contradiction | with_reducible exact h rfl))))
        all_goals (conv => whnf)
        · obtain rfl : kf = i := by omega
          exact fin_new (.cons (by first | exact .here | exact .there .here | exact .there (.there .here) | exact .there (.there (.there .here)) | exact .there (.there (.there (.there .here))) | exact .there (.there (.there (.there (.there .here)))) | exact .there (.there (.there (.there (.there (.there .here)))))) (.cons (by first | exact .here | exact .there .here | exact .there (.there .here) | exact .there (.there (.there .here)) | exact .there (.there (.there (.there .here))) | exact .there (.there (.there (.there (.there .here)))) | exact .there (.there (.there (.there (.there (.there .here)))))) (.cons (by first | exact .here | exact .there .here | exact .there (.there .here) | exact .there (.there (.there .here)) | exact .there (.there (.there (.there .here))) | exact .there (.there (.there (.there (.there .here)))) | exact .there (.there (.there (.there (.there (.there .here)))))) .nil))) (hG.upd hlt (ok_take (by omega) (by omega) h8))
        · have := isF_eq hkf hi (by omega) (by assumption)
          omega
        · exact ⟨rfl, fin_all ⟨q - (i + 1), by omega, i + 1, rfl, isF_ne hkf hi (by omega) (by assumption), rfl, rfl⟩⟩
      · obtain rfl : kf = q := by omega
        refine fn_intro Try.func27 (by kernel_rfl) ?_
        repeat' ((conv => whnf); first
            | refine call_ret (take_full r kf s hq grp (by omega) (by omega) h8 hkf) (.cons .here .nil) ?_
            | refine call_ret hf (.cons (.there .here) .nil) ?_
            | refine loop_rule [10] (fun vs M m => ∃ i : Nat, vs = [.int .i64 i] ∧ i ≤ kf ∧ m = kf - i ∧ M = [lb g kf s junk, tB r kf s]) rfl ?_ ?_
            | refine ld1_lit ?_
            | refine ldN_lit ?_
            | refine nw (fun n => ?_)
            | refine st_lit rfl ?_
            | refine need (by first | rfl | omega) ?_
            | (refine wr (fun z hz => ?_); (try rw [Int.tdiv_eq_ediv_of_nonneg (by omega)] at hz); rw [w64 (by omega) (by omega)] at hz; subst hz)
            | (refine zv (fun z hz => ?_); (try rw [Int.tmod_eq_emod_of_nonneg (by omega)] at hz); subst hz)
            | (refine ifs (fun h => ?_) (fun h => ?_) <;> (try (exfalso; first | omega | with_reducible contradiction | with_reducible exact h rfl))))
        · exact fin_all ⟨_, 0, rfl, by omega, rfl, rfl⟩
        rintro vs junk1 M' m ⟨i, rfl, hi, rfl, rfl⟩
        repeat' ((conv => whnf); first
            | (refine nv (fun z hz => ?_); (try simp at hz); replace hz := hz.symm; subst hz)
            | refine ld1_row (v := .int .i64 (s i).g) (ll_get' (i := i) (k := 0) (by omega) (by omega) (by omega) rfl) ?_
            | refine ld1_lit ?_
            | refine ldN_lit ?_
            | refine nw (fun n => ?_)
            | refine st_lit rfl ?_
            | refine need (by first | rfl | omega) ?_
            | (refine wr (fun z hz => ?_); (try rw [Int.tdiv_eq_ediv_of_nonneg (by omega)] at hz); rw [w64 (by omega) (by omega)] at hz; subst hz)
            | (refine zv (fun z hz => ?_); (try rw [Int.tmod_eq_emod_of_nonneg (by omega)] at hz); subst hz)
            | (refine ifs (fun h => ?_) (fun h => ?_) <;> (try (exfalso; first | omega | with_reducible contradiction | with_reducible exact h rfl))))
        · exact absurd (by assumption) (hkf.2.1 i (by omega))
        all_goals (conv => whnf)
        · exact ⟨rfl, fin_all ⟨kf - (i + 1), by omega, i + 1, rfl, by omega, rfl, rfl⟩⟩
        · exact fin_do (.cons (.there .here) (.cons .here .nil)) hG
end Go.Proofs.Ytlmhagngbfcdkaa.Slots
