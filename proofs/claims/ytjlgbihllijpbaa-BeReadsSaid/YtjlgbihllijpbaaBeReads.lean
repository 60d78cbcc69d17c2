/- The law BeReads: any bytes read in any parts. -/
import Derived.Test.YtjlgbihllijpbaaBe4
import Derived.Test.YtjlgbihllijpbaaEs2
namespace Go.Proofs.Ytjlgbihllijpbaa.Be
open Go Ev
set_option linter.unusedVariables false
set_option linter.unusedSimpArgs false

/-- The cells of parts. -/
def part (p : Int × Bool) : List Value := [.int .i64 p.1, .bool p.2]
def parts (l : List (Int × Bool)) : List Value := (l.map part).flatten
theorem part_len {l : List (Int × Bool)} : ∀ x ∈ l.map part, x.length = 2 := by
  intro x hx; obtain ⟨p, _, rfl⟩ := List.mem_map.1 hx; rfl
theorem part0 {l : List (Int × Bool)} {i : Nat} {n : Int} {b : Bool} (h : l[i]? = some (n, b)) : (parts l)[i * 2]? = some (.int .i64 n) := by
  have := flat_get (j := 0) (part_len (l := l)) (by rw [List.getElem?_map, h]; rfl) (by omega : 0 < 2)
  simpa [part, parts] using this
theorem part1 {l : List (Int × Bool)} {i : Nat} {n : Int} {b : Bool} (h : l[i]? = some (n, b)) : (parts l)[i * 2 + 1]? = some (.bool b) := by
  have := flat_get (j := 1) (part_len (l := l)) (by rw [List.getElem?_map, h]; rfl) (by omega : 1 < 2)
  simpa [part, parts] using this

theorem by_cases' (s : ByteArray) (a n : Int) : (n < 0 ∧ byE s a n = 2 ∧ byS s a n = { data := #[] } ∧ byA s a n = a) ∨ (¬ n < 0 ∧ s.size - a < n ∧ byE s a n = 5 ∧ byS s a n = { data := #[] } ∧ byA s a n = a) ∨
    (¬ n < 0 ∧ ¬ s.size - a < n ∧ byE s a n = 0 ∧ byS s a n = s.extract a.toNat (a + n).toNat ∧ byA s a n = a + n) := by
  by_cases h : n < 0
  · exact .inl ⟨h, if_pos h, if_pos (.inl h), if_pos (.inl h)⟩
  · by_cases h' : s.size - a < n
    · exact .inr (.inl ⟨h, h', by rw [byE, if_neg h, if_pos h'], if_pos (.inr h'), if_pos (.inr h')⟩)
    · exact .inr (.inr ⟨h, h', by rw [byE, if_neg h, if_neg h'], if_neg (by omega), if_neg (by omega)⟩)
theorem nu_cases (s : ByteArray) (a n : Int) : ((n < 1 ∨ 8 < n) ∧ nuE s a n = 2 ∧ nuN s a n = 0 ∧ nuA s a n = a) ∨ (¬ (n < 1 ∨ 8 < n) ∧ s.size - a < n ∧ nuE s a n = 5 ∧ nuN s a n = 0 ∧ nuA s a n = a) ∨
    (¬ (n < 1 ∨ 8 < n) ∧ ¬ s.size - a < n ∧ getE (s.extract a.toNat (a + n).toNat) = 0 ∧ nuE s a n = 0 ∧ nuN s a n = getN (s.extract a.toNat (a + n).toNat) ∧ nuA s a n = a + n) ∨
    (¬ (n < 1 ∨ 8 < n) ∧ ¬ s.size - a < n ∧ ¬ getE (s.extract a.toNat (a + n).toNat) = 0 ∧ nuE s a n = getE (s.extract a.toNat (a + n).toNat) ∧ nuN s a n = getN (s.extract a.toNat (a + n).toNat) ∧ nuA s a n = a) := by
  by_cases h : n < 1 ∨ 8 < n
  · exact .inl ⟨h, if_pos h, if_pos h, if_pos h⟩
  · rcases by_cases' s a n with ⟨h1, _⟩ | ⟨_, h2, e1, e2, e3⟩ | ⟨_, h2, e1, e2, e3⟩
    · omega
    · exact .inr (.inl ⟨h, h2, by rw [nuE, if_neg h, e1]; rfl, by rw [nuN, if_neg h, e1]; rfl, by rw [nuA, if_neg h, e1, e3]; rfl⟩)
    · by_cases hg : getE (s.extract a.toNat (a + n).toNat) = 0
      · exact .inr (.inr (.inl ⟨h, h2, hg, by rw [nuE, if_neg h, if_pos e1, e2, hg], by rw [nuN, if_neg h, if_pos e1, e2], by rw [nuA, if_neg h, e2, if_neg (by intro hc; exact hc.2 hg), e3]⟩))
      · exact .inr (.inr (.inr ⟨h, h2, hg, by rw [nuE, if_neg h, if_pos e1, e2], by rw [nuN, if_neg h, if_pos e1, e2], by rw [nuA, if_neg h, e2, if_pos ⟨e1, hg⟩]⟩))

attribute [local irreducible] getN getE byS byE byA nuN nuE nuA parts

set_option maxHeartbeats 2000000 in
theorem beReads (s : ByteArray) (l : List (Int × Bool)) (S : Sl) (hS : S.ok l.length) (hl : l.length ≤ 9223372036854775807) (hs : s.size ≤ 140737488351232) (hx : ∀ x ∈ l, x.1 ≤ 9223372036854775807) :
    Fnc Try.prog 11 [.string s, S.val l.length] (S.blk (parts l)) (Ret (.bool true) (S.blk (parts l))) := by
  refine fn_intro Try.func11 (by kernel_rfl) ?_
  repeat' ((conv => whnf); first
      | (refine call_fn (read _) .nil (fun e A' hq => ?_); obtain ⟨r, h1, h2⟩ := hq; subst h1; subst h2)
      | refine loop_rule [6, 7] (fun vs M m => ∃ (i : Nat) (a : Int), vs = [.int .i64 a, .int .i64 i] ∧ i ≤ l.length ∧ i ≤ 50 ∧ 0 ≤ a ∧ a ≤ s.size ∧ m = l.length - i ∧ M = rd r s a :: S.blk (parts l)) rfl ?_ ?_
      | refine ld1_lit ?_
      | refine ldN_lit ?_
      | refine nw (fun n => ?_)
      | refine st_lit rfl ?_
      | refine need (by first | rfl | omega) ?_
      | (refine wr (fun z hz => ?_); (try rw [Int.tdiv_eq_ediv_of_nonneg (by omega)] at hz); rw [w64 (by omega) (by omega)] at hz; subst hz)
      | (refine zv (fun z hz => ?_); (try rw [Int.tmod_eq_emod_of_nonneg (by omega)] at hz); subst hz)
      | (refine ifs (fun h => ?_) (fun h => ?_) <;> (try (exfalso; first | omega | with_reducible contradiction | with_reducible exact h rfl))))
  · exact fin_all ⟨_, 0, 0, rfl, by omega, by omega, by omega, by omega, rfl, rfl⟩
  rintro vs junk M' m ⟨i, a, rfl, hi, hi5, ha, has, rfl, rfl⟩
  obtain hi' | ⟨⟨n, b9⟩, hxi⟩ : l.length ≤ i ∨ ∃ p, l[i]? = some p := by
    by_cases h : i < l.length
    · exact .inr ⟨_, List.getElem?_eq_getElem h⟩
    · exact .inl (by omega)
  all_goals try have hin : i < l.length := (List.getElem?_eq_some_iff.1 hxi).1
  repeat' ((conv => whnf); first
      | refine call_val awake ?_
      | (rcases S with ⟨p, c⟩ | ⟨b, off, cap⟩; (exfalso; have hS : l.length = 0 := hS; omega))
      | (refine need (by constructor <;> omega) ?_)
      | (refine nv (fun z hz => ?_); simp at hz; replace hz := hz.symm; subst hz)
      | (refine ld1_ro (o := off) (cs := parts l) (j := i * 2) rfl (part0 hxi) ?_)
      | (refine ld1_ro (o := off) (cs := parts l) (j := i * 2 + 1) rfl (part1 hxi) ?_; cases b9)
      | (refine call_ret (num _ _ _ _ (by omega) (by omega) (by omega)) (.cons .here .nil) ?_; rcases nu_cases s a n with ⟨q, e1, e2, e3⟩ | ⟨q, q2, e1, e2, e3⟩ | ⟨q, q2, q3, e1, e2, e3⟩ | ⟨q, q2, q3, e1, e2, e3⟩ <;> rw [e1, e2, e3])
      | (refine call_ret (bytes _ _ _ _ (by omega) (by omega) (by omega)) (.cons .here .nil) ?_; rcases by_cases' s a n with ⟨q, e1, e2, e3⟩ | ⟨q, q2, e1, e2, e3⟩ | ⟨q, q2, e1, e2, e3⟩ <;> rw [e1, e2, e3])
      | refine call_ret (left _ _ _ (by omega) (by omega) (by omega)) (.cons .here .nil) ?_
      | refine call_ret (end_ _ _ _ (by omega) (by omega) (by omega)) (.cons .here .nil) ?_
      | refine call_val (get01 _) ?_
      | (refine sv (fun z hz => ?_); subst hz)
      | exact fin_right (K := [_]) (fin_all ⟨ret_bool rfl, rfl⟩)
      | refine ld1_lit ?_
      | refine ldN_lit ?_
      | refine nw (fun n => ?_)
      | refine st_lit rfl ?_
      | refine need (by first | rfl | omega) ?_
      | (refine wr (fun z hz => ?_); (try rw [Int.tdiv_eq_ediv_of_nonneg (by omega)] at hz); rw [w64 (by omega) (by omega)] at hz; subst hz)
      | (refine zv (fun z hz => ?_); (try rw [Int.tmod_eq_emod_of_nonneg (by omega)] at hz); subst hz)
      | (refine ifs (fun h => ?_) (fun h => ?_) <;> (try (exfalso; first | omega | with_reducible contradiction | with_reducible exact h rfl))))
  all_goals (conv => whnf)
  all_goals first | exact fin_right (K := [_]) (fin_all ⟨ret_bool rfl, rfl⟩) | exact ⟨rfl, fin_all ⟨l.length - (i + 1), by omega, i + 1, _, rfl, by omega, by omega, by omega, by omega, rfl, rfl⟩⟩ | skip
  done
end Go.Proofs.Ytjlgbihllijpbaa.Be
