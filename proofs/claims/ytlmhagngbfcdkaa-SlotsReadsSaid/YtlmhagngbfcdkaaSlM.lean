/- Tables of slots: the plain model. -/
import Derived.Test.YtlmhagngbfcdkaaEp
namespace Go.Proofs.Ytlmhagngbfcdkaa.Slots
open Go Ev
set_option linter.unusedVariables false
set_option linter.unusedSimpArgs false
set_option maxRecDepth 100000

/-- A slot. -/
structure Sl10 where
  g : Int
  v : Nat → Bool
  d : Nat → Bool
  lv : Int
abbrev sc (x : Sl10) : List Value := [.int .i64 x.g, .bool (x.v 0), .bool (x.v 1), .bool (x.v 2), .bool (x.v 3), .bool (x.d 0), .bool (x.d 1), .bool (x.d 2), .bool (x.d 3), .int .i64 x.lv]
def freeS : Sl10 := ⟨-1, fun _ => false, fun _ => false, 0⟩
def zeroS : Sl10 := ⟨0, fun _ => false, fun _ => false, 0⟩
theorem sc_len (x : Sl10) : (sc x).length = 10 := rfl
/-- So many slots, one behind another. -/
def rl (n : Nat) (s : Nat → Sl10) : List Value := ((List.range n).map fun i => sc (s i)).flatten
theorem rl_lens (n : Nat) (s : Nat → Sl10) : ∀ x ∈ (List.range n).map (fun i => sc (s i)), x.length = 10 := by
  intro x hx; obtain ⟨i, _, rfl⟩ := List.mem_map.1 hx; rfl
theorem rl_len (n : Nat) (s : Nat → Sl10) : (rl n s).length = n * 10 := by
  unfold rl
  rw [List.length_flatten]
  have : (((List.range n).map (fun i => sc (s i))).map List.length) = List.replicate n 10 := by
    apply List.ext_getElem?
    intro i
    by_cases h : i < n
    · simp [h]
    · simp [h]
  rw [this]
  simp
theorem rl_get {n i k : Nat} {s : Nat → Sl10} (hi : i < n) (hk : k < 10) : (rl n s)[i * 10 + k]? = (sc (s i))[k]? :=
  flat_get (rl_lens n s) (by rw [List.getElem?_map, List.getElem?_range hi]; rfl) hk
theorem rl_part {n i : Nat} {s : Nat → Sl10} (hi : i < n) : ((rl n s).drop (i * 10)).take 10 = sc (s i) := by
  apply List.ext_getElem?
  intro k
  by_cases hk : k < 10
  · rw [List.getElem?_take, if_pos hk, List.getElem?_drop, rl_get hi hk]
  · rw [List.getElem?_take, if_neg hk, List.getElem?_eq_none (by rw [sc_len]; omega)]
theorem rl_succ (n : Nat) (s : Nat → Sl10) : rl (n + 1) s = rl n s ++ sc (s n) := by
  unfold rl; rw [List.range_succ]; simp
def upd (s : Nat → Sl10) (i : Nat) (x : Sl10) : Nat → Sl10 := fun j => if j = i then x else s j
theorem rl_set {n i : Nat} {s : Nat → Sl10} {x : Sl10} (hi : i < n) : (rl n s).take (i * 10) ++ sc x ++ (rl n s).drop (i * 10 + 10) = rl n (upd s i x) := by
  apply List.ext_getElem?
  intro k
  have hl := rl_len n s
  have hd := Nat.div_add_mod k 10
  have hm := Nat.mod_lt k (show 0 < 10 by omega)
  have ek : k = k / 10 * 10 + k % 10 := by omega
  have hin : i * 10 + 10 ≤ n * 10 := by omega
  by_cases h1 : k < i * 10
  · rw [List.append_assoc, List.getElem?_append_left (by rw [List.length_take]; omega), List.getElem?_take, if_pos h1, ek, rl_get (by omega) hm, rl_get (by omega) hm]
    unfold upd; rw [if_neg (by omega)]
  · by_cases h2 : k < i * 10 + 10
    · rw [List.append_assoc, List.getElem?_append_right (by rw [List.length_take]; omega), List.length_take, Nat.min_eq_left (by omega), List.getElem?_append_left (by rw [sc_len]; omega)]
      have e : k / 10 = i := by omega
      conv => rhs; rw [ek, e, rl_get hi hm]
      unfold upd; rw [if_pos rfl]
      congr 1; omega
    · rw [List.append_assoc, List.getElem?_append_right (by rw [List.length_take]; omega), List.length_take, Nat.min_eq_left (by omega), List.getElem?_append_right (by rw [sc_len]; omega), List.getElem?_drop]
      rw [show i * 10 + 10 + (k - i * 10 - (sc x).length) = k by rw [sc_len]; omega]
      by_cases h3 : k / 10 < n
      · rw [ek, rl_get h3 hm, rl_get h3 hm]
        unfold upd; rw [if_neg (by omega)]
      · rw [List.getElem?_eq_none (by rw [rl_len]; omega), List.getElem?_eq_none (by rw [rl_len]; omega)]
/-- A table's cells. -/
def tc (n : Int) (s : Nat → Sl10) : List Value := .int .i64 n :: rl 8 s
theorem tc_len (n : Int) (s : Nat → Sl10) : (tc n s).length = 81 := by unfold tc; rw [List.length_cons, rl_len]
theorem tc_0 (n : Int) (s : Nat → Sl10) : (tc n s)[0]? = some (.int .i64 n) := rfl
theorem tc_get {n : Int} {i k : Nat} {s : Nat → Sl10} (hi : i < 8) (hk : k < 10) : (tc n s)[1 + i * 10 + k]? = (sc (s i))[k]? := by
  unfold tc
  rw [show 1 + i * 10 + k = (i * 10 + k) + 1 by omega, List.getElem?_cons_succ, rl_get hi hk]
theorem tc_all (n : Int) (s : Nat → Sl10) : ((tc n s).drop 1).take 80 = rl 8 s := by
  unfold tc
  rw [List.drop_succ_cons, List.drop_zero, List.take_of_length_le (by rw [rl_len]; omega)]
theorem tc_part {n : Int} {i : Nat} {s : Nat → Sl10} (hi : i < 8) : ((tc n s).drop (1 + i * 10)).take 10 = sc (s i) := by
  unfold tc
  rw [show 1 + i * 10 = i * 10 + 1 by omega, List.drop_succ_cons, rl_part hi]
theorem tc_set {n : Int} {i : Nat} {s : Nat → Sl10} {x : Sl10} (hi : i < 8) : (tc n s).take (1 + i * 10) ++ sc x ++ (tc n s).drop (1 + i * 10 + 10) = tc n (upd s i x) := by
  unfold tc
  rw [show 1 + i * 10 = i * 10 + 1 by omega, List.take_succ_cons, show i * 10 + 1 + 10 = (i * 10 + 10) + 1 by omega, List.drop_succ_cons, List.cons_append, List.cons_append, rl_set hi]
/-- One cell of a slot changed. -/
theorem tc_set1 {n : Int} {i k : Nat} {s : Nat → Sl10} {x : Sl10} {u : Value} (hi : i < 8) (hk : k < 10) (hx : (sc (s i)).set k u = sc x) : (tc n s).set (1 + i * 10 + k) u = tc n (upd s i x) := by
  rw [← tc_set hi, ← hx]
  apply List.ext_getElem?
  intro j
  rw [List.getElem?_set]
  have hl := tc_len n s
  have hxl : ((sc (s i)).set k u).length = 10 := by rw [List.length_set, sc_len]
  by_cases h0 : 1 + i * 10 + k = j
  · rw [if_pos h0, if_pos (by omega), List.append_assoc, List.getElem?_append_right (by rw [List.length_take]; omega), List.length_take, Nat.min_eq_left (by omega), List.getElem?_append_left (by omega), List.getElem?_set, if_pos (by omega), if_pos (by rw [sc_len]; omega)]
  · rw [if_neg h0]
    by_cases h1 : j < 1 + i * 10
    · rw [List.append_assoc, List.getElem?_append_left (by rw [List.length_take]; omega), List.getElem?_take, if_pos h1]
    · by_cases h2 : j < 1 + i * 10 + 10
      · rw [List.append_assoc, List.getElem?_append_right (by rw [List.length_take]; omega), List.length_take, Nat.min_eq_left (by omega), List.getElem?_append_left (by omega), List.getElem?_set, if_neg (by omega)]
        rw [← tc_get (n := n) hi (by omega)]
        congr 1; omega
      · rw [List.append_assoc, List.getElem?_append_right (by rw [List.length_take]; omega), List.length_take, Nat.min_eq_left (by omega), List.getElem?_append_right (by omega), List.getElem?_drop]
        congr 1; omega
end Go.Proofs.Ytlmhagngbfcdkaa.Slots
