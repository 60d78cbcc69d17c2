/- Registers laid: plain laws. -/
import Derived.Test.YtjlgbihllijpbabRegM
namespace Go.Proofs.Ytjlgbihllijpbab.Reg
open Go Ev Be Geom
set_option linter.unusedVariables false
set_option linter.unusedSimpArgs false
set_option maxRecDepth 100000

theorem putE1 {n : Int} (h0 : 0 ≤ n) (h1 : n ≤ 255) : putE n 1 = 0 := by
  refine putE_ok (by omega) ?_
  have : ((256 : Int) ^ (1 : Int).toNat) = 256 := rfl
  rw [this]; omega
theorem putE4 {n : Int} (h0 : 0 ≤ n) (h1 : n ≤ 4294967295) : putE n 4 = 0 := by
  refine putE_ok (by omega) ?_
  have : ((256 : Int) ^ (4 : Int).toNat) = 4294967296 := rfl
  rw [this]; omega
theorem bb1 (n : Nat) : bb 1 n = [UInt8.ofNat n] := by
  show [UInt8.ofNat (n / 256 ^ 0 % 256)] = _
  congr 1
  apply UInt8.toNat_inj.1
  simp
theorem putS1 {n : Int} (h0 : 0 ≤ n) (h1 : n ≤ 255) : putS n 1 = str [by1 n] := by
  rw [putS_ok (putE1 h0 h1), show (Int.toNat 1) = 1 from rfl, bb1]; rfl
theorem rowE_8 {l : List Int} (h8 : l.length ≤ 512) (h : ∀ x ∈ l, 0 ≤ x ∧ x ≤ 255) : rowE 1 l = 0 ∧ rowS 1 l = str (l.map by1) := by
  have hf : ∀ l : List Int, (∀ x ∈ l, 0 ≤ x ∧ x ≤ 255) → fe 1 l = 0 ∧ cat 1 l = l.map by1 := by
    intro l
    induction l with
    | nil => intro _; exact ⟨rfl, rfl⟩
    | cons x l ih =>
      intro h
      obtain ⟨i1, i2⟩ := ih (fun y hy => h y (List.mem_cons_of_mem _ hy))
      have hx := h x List.mem_cons_self
      refine ⟨by rw [fe, if_pos (putE1 hx.1 hx.2)]; exact i1, ?_⟩
      unfold cat at i2 ⊢
      rw [List.flatMap_cons, i2, putS1 hx.1 hx.2]
      rfl
  obtain ⟨i1, i2⟩ := hf l h
  have e : rowE 1 l = 0 := by unfold rowE; rw [if_neg (by omega), if_neg (by omega), i1]
  refine ⟨e, ?_⟩
  unfold rowS
  rw [if_pos e, i2]
def atI (t : Bool) : Int := if t then 1 else 0
section
variable {a b : Dg} {e iv a0 a1 u0 u1 d m : Int} {t : Bool}
theorem row_reg (h : RR b e iv a0 a1 u0 u1 d m t) : rowE 1 [a0, u0, a1, u1, d, m, atI t, 103] = 0 ∧ rowS 1 [a0, u0, a1, u1, d, m, atI t, 103] = str [by1 a0, by1 u0, by1 a1, by1 u1, by1 d, by1 m, (if t then 1 else 0), 103] := by
  have := rowE_8 (l := [a0, u0, a1, u1, d, m, atI t, 103]) (by simp) (by
    intro x hx
    have h1 := h.a00; have h2 := h.a01; have h3 := h.a10; have h4 := h.a11; have h5 := h.u00; have h6 := h.u01; have h7 := h.u10; have h8 := h.u11; have h9 := h.d0; have h10 := h.d1; have h11 := h.m0; have h12 := h.m1
    simp only [List.mem_cons, List.not_mem_nil, or_false] at hx
    have ht : atI t = 0 ∨ atI t = 1 := by cases t; exact .inl rfl; exact .inr rfl
    omega)
  refine ⟨this.1, this.2.trans ?_⟩
  congr 1
  cases t <;> rfl
theorem putS_e (h : RR b e iv a0 a1 u0 u1 d m t) : putS e 4 = str (bb 4 e.toNat) := putS_ok (putE4 h.e0 h.e1)
theorem putS_iv (h : RR b e iv a0 a1 u0 u1 d m t) : putS iv 8 = str (bb 8 iv.toNat) := putS_ok (putE8 h.i0)
theorem pad_reg (h : RR b e iv a0 a1 u0 u1 d m t) : padE (str (dl a) ++ str (dl b) ++ putS e 4 ++ putS iv 8 ++ str [by1 a0, by1 u0, by1 a1, by1 u1, by1 d, by1 m, (if t then 1 else 0), 103]) 96 = 0 ∧
    padS (str (dl a) ++ str (dl b) ++ putS e 4 ++ putS iv 8 ++ str [by1 a0, by1 u0, by1 a1, by1 u1, by1 d, by1 m, (if t then 1 else 0), 103]) 96 = str (layL a b e iv a0 a1 u0 u1 d m t) := by
  rw [putS_e h, putS_iv h]
  simp only [str_append]
  generalize hl : dl a ++ dl b ++ bb 4 e.toNat ++ bb 8 iv.toNat ++ [by1 a0, by1 u0, by1 a1, by1 u1, by1 d, by1 m, (if t then 1 else 0), 103] = l
  have hlen : l.length = 84 := by rw [← hl]; rfl
  have hE : padE (str l) 96 = 0 := by
    unfold padE
    rw [if_neg (by omega), if_neg (by rw [Ev.str_size]; omega)]
  refine ⟨hE, ?_⟩
  unfold padS full
  rw [if_pos hE, if_neg (by rw [Ev.str_size]; omega), Ev.str_size, hlen, str_append, ← hl]
  rfl
end
end Go.Proofs.Ytjlgbihllijpbab.Reg
