/- Rows that are no literals: many cells read and stored at once. -/
import Derived.Test.YtlmhagngbfcdkaaEn
namespace Go.Proofs.Ytlmhagngbfcdkaa.Ev
open Go
set_option linter.unusedVariables false
set_option linter.unusedSimpArgs false
section
variable {P : Program} {M RO : List Blk} {k : Kv} {pan : Kp}
theorem row_at {w : World} {n off : Nat} {cs l : List Value} {t : TypeId} (h : (⟨n, .row cs t⟩ : Blk).holds w) (hl : (cs.drop off).take l.length = l) : ∀ j v, l[j]? = some v → w.cell? ⟨n, off + j, none⟩ = some v := by
  intro j v hj
  have hjl := (List.getElem?_eq_some_iff.1 hj).1
  rw [← hl, List.getElem?_take, if_pos hjl, List.getElem?_drop] at hj
  simp only [Blk.holds] at h
  simp [World.cell?, h, hj]
/-- Some cells of a row at once. -/
theorem ldN_row {n off m : Nat} {cs : List Value} {t : TypeId} {K : List Value → Prop} [h : Look M n (.row cs t)] (l : List Value) (hl : (cs.drop off).take l.length = l) (hm : l.length = m) (hk : K l) : LdN M n off m K :=
  ⟨fun A w0 w st => ⟨l, hm, row_at (st.has _ h.mem) hl, hk⟩⟩
theorem qldN_row {n off m : Nat} {cs : List Value} {t : TypeId} {K : List Value → Prop} [h : Look M n (.row cs t)] (l : List Value) (hl : (cs.drop off).take l.length = l) (hm : l.length = m) (hk : K l) : QLdN M n off m K :=
  ⟨l, hm, fun A w0 w st => row_at (st.has _ h.mem) hl, hk⟩
theorem qld1_row {n off : Nat} {cs : List Value} {t : TypeId} {K : Value → Prop} [h : Look M n (.row cs t)] {v : Value} (hv : cs[off]? = some v) (hk : K v) : QLd1 M n off K :=
  ⟨v, fun A w0 w st => by have := st.has _ h.mem; simp only [Blk.holds] at this; simp [World.cell?, this, hv], hk⟩
/-- Some cells of a row stored at once. -/
theorem st_rowN {n off : Nat} {cs vs : List Value} {t : TypeId} {f : Blk → List Blk} {K : List Blk → Prop} [z : Zip M n (.row cs t) f] (h1 : ∀ u ∈ vs, u.oneCell' = true)
    (hl : off + vs.length ≤ cs.length) (hk : K (f ⟨n, .row (cs.take off ++ vs ++ cs.drop (off + vs.length)) t⟩)) : StN P M n off vs K := by
  refine ⟨fun A w0 w st => ?_⟩
  have hu := z.upd (.row (cs.take off ++ vs ++ cs.drop (off + vs.length)) t)
  obtain ⟨L, R, e1, e2⟩ := hu.split
  have hb : (⟨n, .row cs t⟩ : Blk).holds w := st.has _ (by rw [e1]; simp)
  have hr := run_storeCells_at P n off t vs 0 cs.toArray w hb (by simp; omega) h1
  refine ⟨_, _, hr, ?_, hk⟩
  simp only [Nat.add_zero]
  exact setRow_st st hu (.inr rfl) (.inr rfl)
/-- Cells of a value, from 'off' on, where they are no literal. -/
theorem dropK_of {l : List Value} {q : Nat} {K : List Value → Prop} (h : q ≤ l.length) (hk : K (l.drop q)) : dropK l q K := by
  induction l generalizing q with
  | nil =>
    have : q = 0 := by simpa using h
    subst this; exact hk
  | cons a t ih =>
    cases q with
    | zero => exact hk
    | succ q => exact ih (by simpa using h) hk
theorem takeK_of : ∀ {l : List Value} {q : Nat} {K : List Value → Prop}, q ≤ l.length → K (l.take q) → takeK l q K
  | [], 0, K, _, hk => hk
  | [], q + 1, K, h, _ => by simp at h
  | a :: t, 0, K, _, hk => hk
  | a :: t, q + 1, K, h, hk => takeK_of (l := t) (q := q) (K := fun l => K (a :: l)) (by simpa using h) hk
theorem part_of' {l : List Value} {q m : Nat} {K : List Value → Prop} {r : List Value} (hl : (l.drop q).take m = r) (hm : r.length = m) (hm0 : 0 < m) (hk : K r) : dropK l q (fun l' => takeK l' m K) := by
  have h1 : m ≤ (l.drop q).length := by
    have := congrArg List.length hl
    rw [List.length_take, hm] at this
    omega
  refine dropK_of (by rw [List.length_drop] at h1; omega) (takeK_of h1 ?_)
  rw [hl]; exact hk
end
end Go.Proofs.Ytlmhagngbfcdkaa.Ev
