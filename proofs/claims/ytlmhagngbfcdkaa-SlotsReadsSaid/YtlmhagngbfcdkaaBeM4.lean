/- Plain laws of package be: numbers in a row. -/
import Derived.Test.YtlmhagngbfcdkaaBeM3
namespace Go.Proofs.Ytlmhagngbfcdkaa.Be
open Go Ev
set_option linter.unusedVariables false
set_option linter.unusedSimpArgs false

/-- The first number that has no room, as an error (0: all have room). -/
def fe (w : Int) : List Int → Int
  | [] => 0
  | x :: l => if putE x w = 0 then fe w l else putE x w
/-- The bytes of all, one behind the other. -/
def cat (w : Int) (l : List Int) : List UInt8 := l.flatMap fun x => (putS x w).data.toList
theorem cat_snoc (w : Int) (l : List Int) (x : Int) : cat w (l ++ [x]) = cat w l ++ (putS x w).data.toList := by simp [cat]
theorem fe_take {w : Int} : ∀ {l : List Int} {i : Nat} {x : Int}, l[i]? = some x → fe w (l.take i) = 0 → fe w (l.take (i + 1)) = putE x w
  | [], i, x, h, _ => by simp at h
  | y :: l, 0, x, h, _ => by
    simp at h; subst h
    simp only [List.take_succ_cons, List.take_zero, fe]
    split <;> simp_all
  | y :: l, i + 1, x, h, h0 => by
    simp only [List.take_succ_cons, fe] at h0 ⊢
    by_cases hy : putE y w = 0
    · rw [if_pos hy] at h0 ⊢
      exact fe_take (by simpa using h) h0
    · rw [if_neg hy] at h0; exact absurd h0 hy
theorem fe_stop {w : Int} : ∀ {l : List Int} {i : Nat}, fe w (l.take i) ≠ 0 → fe w l = fe w (l.take i)
  | [], i, h => by simp
  | y :: l, 0, h => by simp [fe] at h
  | y :: l, i + 1, h => by
    simp only [List.take_succ_cons, fe] at h ⊢
    by_cases hy : putE y w = 0
    · rw [if_pos hy] at h ⊢; rw [if_pos hy]; exact fe_stop h
    · rw [if_neg hy] at h ⊢; rw [if_neg hy]
def rowE (w : Int) (l : List Int) : Int := if 512 < l.length then 4 else if w < 1 ∨ 8 < w then 2 else fe w l
def rowS (w : Int) (l : List Int) : ByteArray := if rowE w l = 0 then str (cat w l) else str []
theorem putS_le {x w : Int} : (putS x w).size ≤ 8 := by
  by_cases h : putE x w = 0
  · have := putS_size h
    unfold putE at h
    by_cases h1 : w < 1 ∨ 8 < w
    · rw [if_pos h1] at h; cases h
    · omega
  · rw [putS_no h]; simp
theorem cat_le (w : Int) : ∀ l : List Int, (cat w l).length ≤ 8 * l.length
  | [] => by simp [cat]
  | x :: l => by
    have := cat_le w l
    have h := putS_le (x := x) (w := w)
    have h' : (putS x w).data.toList.length = (putS x w).size := rfl
    simp only [cat, List.flatMap_cons, List.length_append, List.length_cons] at this ⊢
    omega
end Go.Proofs.Ytlmhagngbfcdkaa.Be
