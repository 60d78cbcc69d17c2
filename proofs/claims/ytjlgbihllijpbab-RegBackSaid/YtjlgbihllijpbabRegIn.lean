/- A register that comes in. -/
import Derived.Test.YtjlgbihllijpbabRegBack
import Derived.Test.YtjlgbihllijpbabEk
namespace Go.Proofs.Ytjlgbihllijpbab.Reg
open Go Ev Be Geom
set_option linter.unusedVariables false
set_option linter.unusedSimpArgs false
set_option maxRecDepth 100000
theorem i64_in {n : Nat} {l : List Value} (h : FitsW (List.replicate n (.int .i64)) l) : ∃ f : Nat → Int, l = (List.range n).map (fun i => Value.int .i64 (f i)) := by
  refine ⟨fun i => match l[i]? with | some (.int _ z) => z | _ => 0, ?_⟩
  have hl := h.length
  rw [List.length_replicate] at hl
  apply List.ext_getElem?
  intro i
  by_cases hi : i < n
  · obtain ⟨v, h1, z, rfl, hz⟩ := h.get (i := i) (k := .int .i64) (by simp [hi])
    rw [List.getElem?_map, List.getElem?_range hi, h1]
    simp only [Option.map_some, h1]
  · rw [List.getElem?_eq_none (by omega), List.getElem?_eq_none (by simp; omega)]
theorem bool_in {l : List Value} (h : FitsW [.bool] l) : ∃ b : Bool, l = [.bool b] := by
  cases l with
  | nil => exact h.elim
  | cons v l =>
    obtain ⟨⟨b, rfl⟩, h2⟩ := h
    cases l with
    | nil => exact ⟨b, rfl⟩
    | cons _ _ => exact h2.elim
theorem reg_in {cs : List Value} (h : FitsW (List.replicate 64 (.int .u8) ++ List.replicate 8 (.int .i64) ++ [.bool]) cs) : ∃ (a b : Dg) (e iv a0 a1 u0 u1 d m : Int) (t : Bool), cs = regL a b e iv a0 a1 u0 u1 d m t := by
  have lenA : (List.replicate 64 (Kd.int .u8)).length = 64 := List.length_replicate
  have lenB : (List.replicate 64 (Kd.int .u8) ++ List.replicate 8 (Kd.int .i64)).length = 72 := by rw [List.length_append, lenA, List.length_replicate]
  have s1 := h.split
  rw [lenB] at s1
  obtain ⟨h1, h3⟩ := s1
  have s2 := h1.split
  rw [lenA] at s2
  obtain ⟨h1, h2⟩ := s2
  obtain ⟨f, hf⟩ := u8_in h1
  have e1 : ∀ l : List Value, l = ((l.take 72).take 64 ++ (l.take 72).drop 64) ++ l.drop 72 := fun l => by rw [List.take_append_drop, List.take_append_drop]
  rw [e1 cs, hf]
  obtain ⟨g, hg⟩ := i64_in h2
  obtain ⟨t, ht⟩ := bool_in h3
  rw [hg, ht]
  exact ⟨f, fun i => f (32 + i), g 0, g 1, g 2, g 3, g 4, g 5, g 6, g 7, t, rfl⟩
theorem cellsReg : Try.prog.cellsOf 41 = (List.replicate 64 (Kd.int .u8) ++ List.replicate 8 (Kd.int .i64) ++ [Kd.bool]).length := by kernel_rfl
end Go.Proofs.Ytjlgbihllijpbab.Reg
