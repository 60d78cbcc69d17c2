/- append, the elements of more than one cell. -/
import Derived.Test.YtlmhagngbfcdkaaEu
namespace Go.Proofs.Ytlmhagngbfcdkaa.Ev
open Go
set_option linter.unusedVariables false
set_option linter.unusedSimpArgs false
section
variable {P : Program} {M : List Blk} {k : Kv} {pan : Kp}
theorem zero_len (z : Array Value) (n : Nat) : (Builtin.zeroCells z n).toList.length = n * z.size := by simp [Builtin.zeroCells]
/-- append(b, xs...): the source's cells lie from 'o' on in a block that is known; an element has sz cells. -/
theorem app_wide {S : Own} {t ty e : TypeId} {xs news : List Value} {n m g' o c sz : Nat} {f : List Blk → List Blk} {i : TypeInfo} {z : Value} [hz : ZipO M S e xs f] (ht : P.underlying t = some (.slice e))
    (hi : P.info? e = some i) (hzv : i.zero = some z) (hsz : i.size = sz) (hzs : z.cells.size = sz) (hok : S.ok sz n xs) (hl : news.length = m * sz) (hm0 : 0 < m) (h1 : ∀ u ∈ news, u.oneCell' = true) (hb : (n + m) * i.bytes ≤ 140737488355328) (hb2 : n + m ≤ 9223372036854775807)
    (hc : ∀ A w0 w, St A w0 w M → ∀ j v, news[j]? = some v → w.cell? ⟨g', o + j, none⟩ = some v)
    (h : ∀ S' : Own, S'.ok sz (n + m) (xs ++ news) → k (S'.val (n + m)) (f (S'.blk e (xs ++ news)))) :
    Runs P (VS (Builtin.append_ #[t, t] ty #[S.val n, .slice (some ⟨g', o, none⟩) m c])) M k pan := by
  obtain ⟨L, R, e1, e2⟩ := hz.out
  have hxl : xs.length = n * sz := hok.1
  refine ⟨fun A w0 w st => ?_⟩
  generalize hs : Builtin.append_ #[t, t] ty #[S.val n, .slice (some ⟨g', o, none⟩) m c] = s
  have new : ∀ (cs : List Value) (cap : Nat), s.run P w = .ok (.slice (some ⟨w.heap.size, 0, none⟩) (n + m) cap) (w.drew.alloc (.cells (xs ++ news ++ cs).toArray e)) → n + m ≤ cap → (xs ++ news ++ cs).length = cap * sz →
      PostN P (fun v w' => ∃ M', St A w0 w' M' ∧ k v M') (fun ch w' => ∃ M', St A w0 w' M' ∧ pan ch M') ((VS s).run P w) := by
    intro cs cap hr hle hcl
    have : (VS s).run P w = .ok (.value (.slice (some ⟨w.heap.size, 0, none⟩) (n + m) cap)) (w.drew.alloc (.cells (xs ++ news ++ cs).toArray e)) := by
      simp only [VS, Sem.run_bind, hr, Result.andThen_ok, Sem.run_pure]
    rw [this]
    have st1 := (st.drew (w.drawn + 1)).new (.cells (xs ++ news ++ cs).toArray e) (.row (xs ++ news ++ cs) e) (by simp [Blk.holds])
    rw [e1] at st1
    have st2 := St.drop_mid (L := (⟨w.heap.size, .row (xs ++ news ++ cs) e⟩ : Blk) :: L) (K := S.blk e xs) (R := R) st1
    refine ⟨_, ?_, h (.at_ w.heap.size cap cs) ⟨by rw [List.length_append, hxl, hl, Nat.add_mul], hle, by simpa using hcl⟩⟩
    rw [e2]
    refine st2.perm ?_
    simp only [Own.blk, List.cons_append, List.nil_append]
    exact (List.perm_middle).symm
  cases S with
  | nil =>
    have hn0 : n = 0 := hok.2
    have hx0 : xs = [] := List.eq_nil_of_length_eq_zero (by rw [hxl, hn0, Nat.zero_mul])
    subst hn0; subst hx0
    have hr := run_append_nil (P := P) w t ty e i z ht hi hzv ⟨g', o, none⟩ m c news (by rw [hsz, hl]) (fun j v hj => by rw [add_none]; exact hc A w0 w st j v hj) hm0 (by omega) (by simp only [Nat.zero_add] at hb; omega)
    have hge := grownCap_ge w m 0 e
    refine new (Builtin.zeroCells z.cells (grownCap w m 0 e - m)).toList (grownCap w m 0 e) ?_ (by omega) ?_
    · rw [← hs]
      refine Eq.trans hr ?_
      have ea : news.toArray ++ Builtin.zeroCells z.cells (grownCap w m 0 e - m) = ([] ++ news ++ (Builtin.zeroCells z.cells (grownCap w m 0 e - m)).toList).toArray := by apply Array.ext'; simp
      rw [ea, Nat.zero_add]
    · rw [List.nil_append, List.length_append, hl, zero_len, hzs, ← Nat.add_mul]
      congr 1; omega
  | at_ g cap junk =>
    obtain ⟨q1, q2⟩ := hok.2
    have hg : w.heap[g]? = some (.cells (xs ++ junk).toArray e (0, 0)) := by
      have := st.has ⟨g, .row (xs ++ junk) e⟩ (by rw [e1]; simp [Own.blk])
      exact this
    by_cases hr : n + m ≤ cap
    · have hfit : (n + m) * sz ≤ cap * sz := Nat.mul_le_mul_right _ hr
      have hrun := run_append_room (P := P) w t ty e i ht hi g n cap (xs ++ junk).toArray hg ⟨g', o, none⟩ m c news (by rw [hsz, hl]) (fun j v hj => by rw [add_none]; exact hc A w0 w st j v hj) h1 hr (by
        rw [hsz, hl, ← Nat.add_mul]
        rw [List.size_toArray, q2]; exact hfit)
      have : (VS s).run P w = .ok (.value (.slice (some ⟨g, 0, none⟩) (n + m) cap)) (w.setRow g ((xs ++ junk).take (n * sz) ++ news ++ (xs ++ junk).drop (n * sz + m * sz)).toArray) := by
        rw [← hs]
        rw [hsz, hl] at hrun
        simp only [VS, Sem.run_bind, Own.val, Own.p, Own.c, hrun, Result.andThen_ok, Sem.run_pure]
      rw [this]
      have et : (xs ++ junk).take (n * sz) ++ news ++ (xs ++ junk).drop (n * sz + m * sz) = xs ++ news ++ junk.drop (m * sz) := by
        rw [List.take_append_of_le_length (by omega), List.take_of_length_le (by omega), List.drop_append, List.drop_of_length_le (by omega)]
        simp [hxl]
      rw [et]
      have hu : Upd M g (.row (xs ++ junk) e) (.row (xs ++ news ++ junk.drop (m * sz)) e) (L ++ (⟨g, .row (xs ++ news ++ junk.drop (m * sz)) e⟩ :: R)) := ⟨⟨L, R, by rw [e1]; rfl, rfl⟩⟩
      refine ⟨_, ?_, h (.at_ g cap (junk.drop (m * sz))) ⟨by rw [List.length_append, hxl, hl, Nat.add_mul], hr, ?_⟩⟩
      · rw [e2]
        exact setRow_st st hu (.inr rfl) (.inr rfl)
      · rw [List.length_append] at q2
        rw [List.length_append, List.length_append, List.length_drop, hl, hxl]
        rw [Nat.add_mul] at hfit
        omega
    · have hrun := run_append_grow (P := P) w t ty e i z ht hi hzv ⟨g, 0, none⟩ n cap xs (by rw [hsz, hxl]) (fun j v hj => by
          rw [add_none, Nat.zero_add]
          have hj' := (List.getElem?_eq_some_iff.1 hj).1
          simp only [World.cell?, hg]
          rw [List.getElem?_toArray, List.getElem?_append_left hj']
          exact hj) ⟨g', o, none⟩ m c news (by rw [hsz, hl]) (fun j v hj => by rw [add_none]; exact hc A w0 w st j v hj) (by omega) (by omega) (growslice_fits (by omega) hb)
      have hge := grownCap_ge w (n + m) cap e
      refine new (Builtin.zeroCells z.cells (grownCap w (n + m) cap e - (n + m))).toList (grownCap w (n + m) cap e) ?_ (by omega) ?_
      · rw [← hs]
        refine Eq.trans hrun ?_
        have ea : xs.toArray ++ news.toArray ++ Builtin.zeroCells z.cells (grownCap w (n + m) cap e - (n + m)) = (xs ++ news ++ (Builtin.zeroCells z.cells (grownCap w (n + m) cap e - (n + m))).toList).toArray := by apply Array.ext'; simp
        rw [ea]
      · rw [List.length_append, List.length_append, hxl, hl, zero_len, hzs, ← Nat.add_mul, ← Nat.add_mul]
        congr 1; omega
end
end Go.Proofs.Ytlmhagngbfcdkaa.Ev
