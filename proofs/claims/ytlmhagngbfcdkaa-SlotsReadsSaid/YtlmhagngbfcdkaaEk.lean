/- Structs and arrays of plain cells that come in: what their cells are. -/
import Derived.Test.YtlmhagngbfcdkaaEq
import Derived.OpenShut
import Derived.WideShapes
namespace Go.Proofs.Ytlmhagngbfcdkaa.Ev
open Go
set_option linter.unusedVariables false
set_option linter.unusedSimpArgs false

def Kd.okw : Kd → Value → Prop
  | .bool, v => ∃ b, v = .bool b
  | .int k, v => ∃ z, v = .int k z ∧ (Lit.int k z).wf = true
  | .string, v => ∃ s, v = .string s
def FitsW : List Kd → List Value → Prop
  | [], [] => True
  | k :: ks, v :: vs => k.okw v ∧ FitsW ks vs
  | _, _ => False
theorem FitsW.length : ∀ {ks : List Kd} {vs : List Value}, FitsW ks vs → vs.length = ks.length
  | [], [], _ => rfl
  | _ :: _, _ :: _, h => by simp [FitsW.length h.2]
  | [], _ :: _, h => h.elim
  | _ :: _, [], h => h.elim
theorem FitsW.split : ∀ {ks ks' : List Kd} {vs : List Value}, FitsW (ks ++ ks') vs → FitsW ks (vs.take ks.length) ∧ FitsW ks' (vs.drop ks.length)
  | [], ks', vs, h => ⟨by simp [FitsW], by simpa using h⟩
  | _ :: _, _, [], h => h.elim
  | k :: ks, ks', v :: vs, h => by
      have := FitsW.split h.2
      exact ⟨⟨h.1, this.1⟩, this.2⟩
theorem FitsW.app : ∀ {ks ks' : List Kd} {vs vs' : List Value}, FitsW ks vs → FitsW ks' vs' → FitsW (ks ++ ks') (vs ++ vs')
  | [], _, [], _, _, h => h
  | _ :: _, _, _ :: _, _, h, h' => ⟨h.1, FitsW.app h.2 h'⟩
  | [], _, _ :: _, _, h, _ => h.elim
  | _ :: _, _, [], _, h, _ => h.elim
theorem FitsW.get : ∀ {ks : List Kd} {vs : List Value} {i : Nat} {k : Kd}, FitsW ks vs → ks[i]? = some k → ∃ v, vs[i]? = some v ∧ k.okw v
  | k :: ks, v :: vs, 0, k', h, hk => by simp at hk; subst hk; exact ⟨v, rfl, h.1⟩
  | k :: ks, v :: vs, i + 1, k', h, hk => by
      obtain ⟨u, h1, h2⟩ := FitsW.get h.2 (by simpa using hk)
      exact ⟨u, by simpa using h1, h2⟩
  | [], _, _, _, _, hk => by simp at hk
  | _ :: _, [], _, _, h, _ => h.elim
theorem FitsW.chunks {ks : List Kd} : ∀ {n : Nat} {cs : List Value}, cs.length = n * ks.length → (∀ i, i < n → FitsW ks ((cs.drop (i * ks.length)).take ks.length)) → FitsW (List.replicate n ks).flatten cs
  | 0, cs, hl, _ => by
      have : cs = [] := List.eq_nil_of_length_eq_zero (by omega)
      subst this; trivial
  | n + 1, cs, hl, h => by
      rw [List.replicate_succ, List.flatten_cons, ← List.take_append_drop ks.length cs]
      refine FitsW.app (by simpa using h 0 (by omega)) (FitsW.chunks (by rw [List.length_drop, hl, Nat.succ_mul]; omega) fun i hi => ?_)
      have := h (i + 1) (by omega)
      rw [List.drop_drop]
      rwa [Nat.succ_mul, Nat.add_comm] at this
section
variable {H : Type} {enc : TypeId × Value → H} {P : Program} {w : World} {base : Nat} {spare : Nat → Bool} {held : Bool}
theorem fields_in {d fuel : Nat} {cs : List Value} (IH : ∀ t ks, kindsOf P d t = some ks → P.cellsOf t = ks.length → ∀ cs' x, DataW.trod enc P w base spare held fuel t cs' = some x → FitsW ks cs') :
    ∀ (fs : List Field) (off : Nat) (ks : List Kd), fieldsKinds P (kindsOf P d) fs off = some ks → (cs.drop off).length = ks.length →
      (∀ f ∈ fs, ∃ x, DataW.trod enc P w base spare held fuel f.type ((cs.drop f.offset).take (P.cellsOf f.type)) = some x) → FitsW ks (cs.drop off)
  | [], off, ks, h, hl, _ => by
    simp only [fieldsKinds, Option.some.injEq] at h
    subst h
    rw [List.eq_nil_of_length_eq_zero hl]
    trivial
  | f :: fs, off, ks, h, hl, hx => by
    simp only [fieldsKinds] at h
    split at h
    · rename_i hn
      split at h
      · rename_i k1 hk1
        split at h
        · rename_i hc
          simp only [Option.map_eq_some_iff] at h
          obtain ⟨k2, h2, rfl⟩ := h
          obtain ⟨x, hx1⟩ := hx f List.mem_cons_self
          rw [hn.2, hc] at hx1
          rw [← List.take_append_drop k1.length (cs.drop off)]
          refine FitsW.app (IH _ _ hk1 hc _ x hx1) ?_
          rw [List.drop_drop]
          exact fields_in IH fs _ k2 h2 (by rw [List.length_append] at hl; rw [← List.drop_drop, List.length_drop, hl]; omega) (fun g hg => hx g (List.mem_cons_of_mem _ hg))
        · cases h
      · cases h
    · cases h
theorem trod_fits : ∀ (d : Nat) (t : TypeId) (ks : List Kd), kindsOf P d t = some ks → P.cellsOf t = ks.length → ∀ (fuel : Nat) (cs : List Value) (x : DataW H × List MemPlace), DataW.trod enc P w base spare held fuel t cs = some x → FitsW ks cs
  | 0, _, _, h, _, _, _, _, _ => by cases h
  | d + 1, t, ks, hk, hc, fuel, cs, x, h => by
    unfold kindsOf at hk
    cases hu : P.underlying t with
    | none => simp [hu] at hk
    | some kd =>
      cases kd <;> simp only [hu] at hk <;> first | (cases hk; done) | skip
      case bool =>
        cases hk
        obtain ⟨b, rfl, _⟩ := DataW.trod_bool hu h
        exact ⟨⟨b, rfl⟩, trivial⟩
      case int q =>
        cases hk
        obtain ⟨z, rfl, _, hw⟩ := DataW.trod_int hu h
        exact ⟨⟨z, rfl, hw⟩, trivial⟩
      case string =>
        cases hk
        obtain ⟨s, rfl, _⟩ := DataW.trod_string hu h
        exact ⟨⟨s, rfl⟩, trivial⟩
      case array n e =>
        split at hk
        · rename_i k1 hk1
          split at hk
          · rename_i hc1
            cases hk
            obtain ⟨xs, m, _, _, hlen, hxl, hf⟩ := DataW.trod_array hu h
            refine FitsW.chunks (by rw [hlen, hc, rep_len]) fun i hi => ?_
            have h1 := hf i hi
            rw [hc1, List.getElem?_eq_getElem (by omega)] at h1
            exact trod_fits d e k1 hk1 hc1 m _ _ h1
          · cases hk
        · cases hk
      case struct fs =>
        split at hk
        · obtain ⟨xs, m, _, _, hlen, hxl, hf⟩ := DataW.trod_struct hu h
          have := fields_in (cs := cs) (fun t' ks' h1 h2 cs' x' h3 => trod_fits d t' ks' h1 h2 m cs' x' h3) fs.toList 0 ks hk (by simpa using hlen.trans hc) (fun f hf1 => by
            obtain ⟨i, hi⟩ := List.getElem?_of_mem hf1
            have hi' : fs[i]? = some f := by simpa using hi
            have h1 := hf i f hi'
            have : i < xs.length := by rw [hxl]; exact (Array.getElem?_eq_some_iff.1 hi').1
            rw [List.getElem?_eq_getElem this] at h1
            exact ⟨_, h1⟩)
          simpa using this
        · cases hk
end
theorem u8_in {n : Nat} {l : List Value} (h : FitsW (List.replicate n (.int .u8)) l) : ∃ f : Nat → UInt8, l = (List.range n).map (fun i => Value.int .u8 ((f i).toNat : Int)) := by
  refine ⟨fun i => match l[i]? with | some (.int _ z) => UInt8.ofNat z.toNat | _ => 0, ?_⟩
  have hl := h.length
  rw [List.length_replicate] at hl
  apply List.ext_getElem?
  intro i
  by_cases hi : i < n
  · obtain ⟨v, h1, z, rfl, hz⟩ := h.get (i := i) (k := .int .u8) (by simp [hi])
    rw [List.getElem?_map, List.getElem?_range hi, h1]
    simp only [Option.map_some, h1]
    have := bd_u8 hz
    congr 2
    rw [UInt8.toNat_ofNat']
    omega
  · rw [List.getElem?_eq_none (by omega), List.getElem?_eq_none (by simp; omega)]
end Go.Proofs.Ytlmhagngbfcdkaa.Ev
