/- Slices of structs that come in as arguments and are only read. -/
import Derived.Test.YtlmhagngbfcdkaaEs
namespace Go.Proofs.Ytlmhagngbfcdkaa.Ev
open Go
set_option linter.unusedVariables false
set_option linter.unusedSimpArgs false

theorem cell_spot {w : World} {a : Addr} {v : Value} (h : w.cell? a = some v) : a.spot = none ∧ a.block < w.heap.size := by
  unfold World.cell? at h
  split at h
  · have hb := (Array.getElem?_eq_some_iff.1 ‹_›).1
    cases hs : a.spot with
    | none => exact ⟨rfl, hb⟩
    | some s => rw [hs] at h; simp at h
  · cases h

/-- All elements of one length, one behind another: where an element's cell is. -/
theorem flat_get {α : Type} : ∀ {l : List (List α)} {k i j : Nat} {r : List α}, (∀ x ∈ l, x.length = k) → l[i]? = some r → j < k → l.flatten[i * k + j]? = r[j]?
  | [], k, i, j, r, _, h, _ => by simp at h
  | x :: l, k, 0, j, r, hl, h, hj => by
      have := hl x List.mem_cons_self
      simp only [List.getElem?_cons_zero, Option.some.injEq] at h
      subst h
      rw [List.flatten_cons, Nat.zero_mul, Nat.zero_add, List.getElem?_append_left (by omega)]
  | x :: l, k, i + 1, j, r, hl, h, hj => by
      have := hl x List.mem_cons_self
      rw [List.flatten_cons, List.getElem?_append_right (by rw [this, Nat.succ_mul]; omega)]
      rw [show (i + 1) * k + j - x.length = i * k + j by rw [this, Nat.succ_mul]; omega]
      exact flat_get (fun y hy => hl y (List.mem_cons_of_mem _ hy)) (by simpa using h) hj
theorem flat_split {α : Type} : ∀ {l : List (List α)} {k n : Nat} {v : α}, (∀ x ∈ l, x.length = k) → l.flatten[n]? = some v → ∃ i j r, n = i * k + j ∧ j < k ∧ l[i]? = some r ∧ r[j]? = some v
  | [], k, n, v, _, h => by simp at h
  | x :: l, k, n, v, hl, h => by
      have hx := hl x List.mem_cons_self
      rw [List.flatten_cons] at h
      by_cases hn : n < x.length
      · rw [List.getElem?_append_left hn] at h
        exact ⟨0, n, x, by omega, by omega, rfl, h⟩
      · rw [List.getElem?_append_right (by omega)] at h
        obtain ⟨i, j, r, h1, h2, h3, h4⟩ := flat_split (fun y hy => hl y (List.mem_cons_of_mem _ hy)) h
        exact ⟨i + 1, j, r, by rw [Nat.succ_mul]; omega, h2, by simpa using h3, h4⟩

/-- A slice whose elements are k cells each that came in. -/
theorem rows_in {H : Type} {enc : TypeId × Value → H} {P : Program} {w : World} {base : Nat} {spare : Nat → Bool} {held : Bool} {t e : TypeId} {k fuel : Nat} {cs : List Value} {x : DataW H × List MemPlace} (ht : P.underlying t = some (.slice e)) (hc : P.cellsOf e = k) (hk : 0 < k)
    (h : DataW.trod enc P w base spare held fuel t cs = some x) :
    ∃ (S : Sl) (l : List (List Value)), cs = [S.val l.length] ∧ S.ok l.length ∧ l.length ≤ maxLen ∧ (∀ r ∈ l, r.length = k ∧ ∃ n y, DataW.trod enc P w base spare held n e r = some y) ∧ Mem w (S.blk l.flatten) := by
  rcases Deep.open_slice ht h with ⟨rfl, _⟩ | ⟨a, len, cap, m, n, D, Pl, rfl, _, hl, hm, hlen, _, hcell⟩
  · exact ⟨.no none 0, [], rfl, rfl, Nat.zero_le _, by simp, fun b hb => (by cases hb), List.Pairwise.nil⟩
  · have hle : len ≤ m := by rw [hlen]; split <;> omega
    by_cases h0 : len = 0
    · subst h0
      exact ⟨.no (some a) cap, [], rfl, rfl, Nat.zero_le _, by simp, fun b hb => (by cases hb), List.Pairwise.nil⟩
    · obtain ⟨g, hg⟩ := Deep.choose_lt hcell
      have hg' : ∀ i, i < m → (g i).length = k ∧ ∀ j, j < k → w.cell? ((a.add (i * k)).add j) = (g i)[j]? := by
        intro i hi
        obtain ⟨_, h2, h3⟩ := World.cells?_some (hg i hi).1
        rw [hc] at h2 h3
        exact ⟨h2, h3⟩
      obtain ⟨hl0, hc0⟩ := hg' 0 (by omega)
      have c0 : w.cell? a = some ((g 0)[0]'(by omega)) := by
        have := hc0 0 hk
        rw [List.getElem?_eq_getElem (by omega)] at this
        simpa [Addr.add] using this
      obtain ⟨hsp, hb⟩ := cell_spot c0
      obtain ⟨b, off, spot⟩ := a
      simp only at hsp hb
      subst hsp
      refine ⟨.at_ b off cap, (List.range len).map g, by rw [List.length_map, List.length_range]; rfl, trivial, by rw [List.length_map, List.length_range]; omega, ?_, ?_, List.pairwise_singleton _ _⟩
      · intro r hr
        obtain ⟨i, hi, rfl⟩ := List.mem_map.1 hr
        have hi := List.mem_range.1 hi
        exact ⟨(hg' i (by omega)).1, n, _, (hg i (by omega)).2⟩
      · intro bb hbb
        simp only [Sl.blk, List.mem_singleton] at hbb
        subst hbb
        refine ⟨hb, fun j v hj => ?_⟩
        have hlk : ∀ y ∈ (List.range len).map g, y.length = k := by
          intro y hy
          obtain ⟨i, hi, rfl⟩ := List.mem_map.1 hy
          exact (hg' i (by have := List.mem_range.1 hi; omega)).1
        obtain ⟨i, j', r, rfl, hj', hr, hv⟩ := flat_split hlk hj
        rw [List.getElem?_map] at hr
        by_cases hi : i < len
        · rw [List.getElem?_range hi] at hr
          simp only [Option.map_some, Option.some.injEq] at hr
          subst hr
          have := (hg' i (by omega)).2 j' hj'
          rw [hv, Deep.add_add] at this
          rw [← this, add_none]
        · rw [List.getElem?_eq_none (by simpa using hi)] at hr
          cases hr
theorem list_of {α β : Type} {f : α → β} {Q : α → Prop} : ∀ {l : List β}, (∀ r ∈ l, ∃ p, r = f p ∧ Q p) → ∃ l' : List α, l = l'.map f ∧ ∀ p ∈ l', Q p
  | [], _ => ⟨[], rfl, by simp⟩
  | r :: l, h => by
      obtain ⟨p, rfl, hp⟩ := h r List.mem_cons_self
      obtain ⟨l', rfl, hl'⟩ := list_of (fun r hr => h r (List.mem_cons_of_mem _ hr))
      exact ⟨p :: l', rfl, by simpa using ⟨hp, hl'⟩⟩
end Go.Proofs.Ytlmhagngbfcdkaa.Ev
