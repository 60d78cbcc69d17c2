/- Slices that begin empty; what is appended from within a block. -/
import Derived.Test.YtlmhagngbfcdkaaEt
namespace Go.Proofs.Ytlmhagngbfcdkaa.Ev
open Go
set_option linter.unusedVariables false
set_option linter.unusedSimpArgs false
section
variable {P : Program} {M : List Blk} {k : Kv} {pan : Kp}
/-- []T{}: no elements, but not nil. -/
theorem mk_nil {o : Oper} {fr : List Value} {t e : TypeId} {i : TypeInfo} (ho : o.op = .buildSlice t 0 #[]) (hu : P.underlying t = some (.slice e)) (hi : P.info? e = some i)
    (h : ∀ S : Own, S.ok i.size 0 [] → k (S.val 0) (S.blk e [] ++ M)) : Runs P (execOp (Act.eval ⟨fr.toArray, []⟩) o) M k pan := by
  refine ⟨fun A w0 w st => ?_⟩
  have hr : (execOp (Act.eval ⟨fr.toArray, []⟩) o).run P w = .ok (.value (.slice (some ⟨w.heap.size, 0, none⟩) 0 0)) { w with heap := w.heap.push (.cells #[] e) } := by
    unfold execOp
    rw [ho]
    have e0 : ∀ f : Nat → Value, Array.map f (Array.range 0) = #[] := fun f => by apply Array.ext'; simp
    simp [Instr.buildSlice, run_underlying hu, Go.sizeOf, typeInfo, hi, Instr.fill, newRow, e0]
  rw [hr]
  exact ⟨_, st.new (.cells #[] e) (.row [] e) (by simp [Blk.holds]), h (.at_ w.heap.size 0 []) ⟨by simp, Nat.le_refl _, by simp⟩⟩
/-- append(b, xs...), the source cells of a block that is known. -/
theorem app_at {S : Own} {t ty e : TypeId} {xs news : List Value} {n m g' o c : Nat} {f : List Blk → List Blk} {i : TypeInfo} {z : Value} [hz : ZipO M S e xs f] (ht : P.underlying t = some (.slice e))
    (hi : P.info? e = some i) (hzv : i.zero = some z) (hzc : z.cells = #[z]) (hs1 : i.size = 1) (hok : S.ok 1 n xs) (hl : news.length = m) (h1 : ∀ u ∈ news, u.oneCell' = true) (hb : (n + m) * i.bytes ≤ 140737488355328) (hb2 : n + m ≤ 9223372036854775807)
    (hc : ∀ A w0 w, St A w0 w M → ∀ j v, news[j]? = some v → w.cell? ⟨g', o + j, none⟩ = some v)
    (h : ∀ S' : Own, S'.ok 1 (n + m) (xs ++ news) → k (S'.val (n + m)) (f (S'.blk e (xs ++ news)))) :
    Runs P (VS (Builtin.append_ #[t, t] ty #[S.val n, .slice (some ⟨g', o, none⟩) m c])) M k pan := by
  have hxl : xs.length = n := by have := hok.1; omega
  refine app_core (z := z) (i := i) hzc hs1 hl hok ?_ ?_ ?_ ?_ h
  · intro hS hm A w0 w st
    subst hS
    have hn0 : n = 0 := hok.2
    subst hn0
    exact run_append_nil (P := P) w t ty e i z ht hi hzv ⟨g', o, none⟩ m c news (by rw [hs1]; omega) (fun j v hj => by rw [add_none]; exact hc A w0 w st j v hj) hm (by omega) (by simp only [Nat.zero_add] at hb; omega)
  · intro hS hm w
    subst hS
    have hn0 : n = 0 := hok.2
    subst hm
    simp [hn0, Own.p, Own.c, Builtin.append_, run_underlying ht, sizeOf, typeInfo, hi, Builtin.lenOf, Builtin.firstCells, loadCells, loadCellsFrom]
  · intro g cap junk hS hr A w0 w st hg
    subst hS
    have := run_append_room (P := P) w t ty e i ht hi g n cap (xs ++ junk).toArray hg ⟨g', o, none⟩ m c news (by rw [hs1]; omega) (fun j v hj => by rw [add_none]; exact hc A w0 w st j v hj) h1 hr (by have := hok.2.2; simp [hs1] at this ⊢; omega)
    refine Eq.trans this ?_
    simp [hs1, hl]
  · intro g cap junk hS hr A w0 w st hc'
    subst hS
    have := run_append_grow (P := P) w t ty e i z ht hi hzv ⟨g, 0, none⟩ n cap xs (by rw [hs1]; omega) (fun j v hj => by rw [add_none, Nat.zero_add]; exact hc' j v hj) ⟨g', o, none⟩ m c news (by rw [hs1]; omega) (fun j v hj => by rw [add_none]; exact hc A w0 w st j v hj) (by omega) (by omega) (growslice_fits (by omega) hb)
    exact this
/-- The cells of a block from 'off' on, at a walk. -/
theorem cells_from {n off : Nat} {cs : List Value} {t : TypeId} {l : List Value} [hk : Look M n (.cells cs t)] (hl : (cs.drop off).take l.length = l) : ∀ (A : List Blk) (w0 w : World), St A w0 w M → ∀ (j : Nat) (v : Value), l[j]? = some v → w.cell? ⟨n, off + j, none⟩ = some v := by
  intro A w0 w st j v hj
  have hjl := (List.getElem?_eq_some_iff.1 hj).1
  rw [← hl, List.getElem?_take, if_pos hjl, List.getElem?_drop] at hj
  exact cells_at A w0 w st (off + j) v hj
end
end Go.Proofs.Ytlmhagngbfcdkaa.Ev
