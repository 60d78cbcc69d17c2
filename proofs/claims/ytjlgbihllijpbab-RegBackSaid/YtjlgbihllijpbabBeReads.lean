/- The law BeReads: any bytes read in any parts. -/
import Derived.Test.YtjlgbihllijpbabBe4
import Derived.Test.YtjlgbihllijpbabEs2
namespace Go.Proofs.Ytjlgbihllijpbab.Be
open Go Ev
set_option linter.unusedVariables false
set_option linter.unusedSimpArgs false

/-- The cells of parts. -/
def part (p : Int × Bool) : List Value := [.int .i64 p.1, .bool p.2]
def parts (l : List (Int × Bool)) : List Value := (l.map part).flatten
theorem part_len {l : List (Int × Bool)} : ∀ x ∈ l.map part, x.length = 2 := by
  intro x hx; obtain ⟨p, _, rfl⟩ := List.mem_map.1 hx; rfl
theorem part0 {l : List (Int × Bool)} {i : Nat} {n : Int} {b : Bool} (h : l[i]? = some (n, b)) : (parts l)[i * 2]? = some (.int .i64 n) := by
  have := flat_get (j := 0) (part_len (l := l)) (by rw [List.getElem?_map, h]; rfl) (by omega : 0 < 2)
  simpa [part, parts] using this
theorem part1 {l : List (Int × Bool)} {i : Nat} {n : Int} {b : Bool} (h : l[i]? = some (n, b)) : (parts l)[i * 2 + 1]? = some (.bool b) := by
  have := flat_get (j := 1) (part_len (l := l)) (by rw [List.getElem?_map, h]; rfl) (by omega : 1 < 2)
  simpa [part, parts] using this

theorem by_cases' (s : ByteArray) (a n : Int) : (n < 0 ∧ byE s a n = 2 ∧ byS s a n = { data := #[] } ∧ byA s a n = a) ∨ (¬ n < 0 ∧ s.size - a < n ∧ byE s a n = 5 ∧ byS s a n = { data := #[] } ∧ byA s a n = a) ∨
    (¬ n < 0 ∧ ¬ s.size - a < n ∧ byE s a n = 0 ∧ byS s a n = s.extract a.toNat (a + n).toNat ∧ byA s a n = a + n) := by
  by_cases h : n < 0
  · exact .inl ⟨h, if_pos h, if_pos (.inl h), if_pos (.inl h)⟩
  · by_cases h' : s.size - a < n
    · exact .inr (.inl ⟨h, h', by rw [byE, if_neg h, if_pos h'], if_pos (.inr h'), if_pos (.inr h')⟩)
    · exact .inr (.inr ⟨h, h', by rw [byE, if_neg h, if_neg h'], if_neg (by omega), if_neg (by omega)⟩)
theorem nu_cases (s : ByteArray) (a n : Int) : ((n < 1 ∨ 8 < n) ∧ nuE s a n = 2 ∧ nuN s a n = 0 ∧ nuA s a n = a) ∨ (¬ (n < 1 ∨ 8 < n) ∧ s.size - a < n ∧ nuE s a n = 5 ∧ nuN s a n = 0 ∧ nuA s a n = a) ∨
    (¬ (n < 1 ∨ 8 < n) ∧ ¬ s.size - a < n ∧ getE (s.extract a.toNat (a + n).toNat) = 0 ∧ nuE s a n = 0 ∧ nuN s a n = getN (s.extract a.toNat (a + n).toNat) ∧ nuA s a n = a + n) ∨
    (¬ (n < 1 ∨ 8 < n) ∧ ¬ s.size - a < n ∧ ¬ getE (s.extract a.toNat (a + n).toNat) = 0 ∧ nuE s a n = getE (s.extract a.toNat (a + n).toNat) ∧ nuN s a n = getN (s.extract a.toNat (a + n).toNat) ∧ nuA s a n = a) := by
  by_cases h : n < 1 ∨ 8 < n
  · exact .inl ⟨h, if_pos h, if_pos h, if_pos h⟩
  · rcases by_cases' s a n with ⟨h1, _⟩ | ⟨_, h2, e1, e2, e3⟩ | ⟨_, h2, e1, e2, e3⟩
    · omega
    · exact .inr (.inl ⟨h, h2, by rw [nuE, if_neg h, e1]; rfl, by rw [nuN, if_neg h, e1]; rfl, by rw [nuA, if_neg h, e1, e3]; rfl⟩)
    · by_cases hg : getE (s.extract a.toNat (a + n).toNat) = 0
      · exact .inr (.inr (.inl ⟨h, h2, hg, by rw [nuE, if_neg h, if_pos e1, e2, hg], by rw [nuN, if_neg h, if_pos e1, e2], by rw [nuA, if_neg h, e2, if_neg (by intro hc; exact hc.2 hg), e3]⟩))
      · exact .inr (.inr (.inr ⟨h, h2, hg, by rw [nuE, if_neg h, if_pos e1, e2], by rw [nuN, if_neg h, if_pos e1, e2], by rw [nuA, if_neg h, e2, if_pos ⟨e1, hg⟩]⟩))

attribute [local irreducible] getN getE byS byE byA nuN nuE nuA parts

end Go.Proofs.Ytjlgbihllijpbab.Be
