/- What was laid is got as it was. -/
import Derived.Test.YtjlgbihllijpbabRegM3
namespace Go.Proofs.Ytjlgbihllijpbab.Reg
open Go Ev Be Geom
set_option linter.unusedVariables false
set_option linter.unusedSimpArgs false
set_option maxRecDepth 100000
theorem by1_back {x : Int} (h0 : 0 ≤ x) (h1 : x ≤ 255) : ((by1 x).toNat : Int) = x := by
  unfold by1
  rw [UInt8.toNat_ofNat']
  omega
section
variable {a b c : Dg} {e iv a0 a1 u0 u1 d m : Int} {t : Bool}
theorem lay_back (h : RR b e iv a0 a1 u0 u1 d m t) (hc : S c = str (layL a b e iv a0 a1 u0 u1 d m t)) :
    GO c ∧ regL c (bD c) (eC c) (iC c) (fC c 76) (fC c 78) (fC c 77) (fC c 79) (fC c 80) (fC c 81) (tC c) = regL a b e iv a0 a1 u0 u1 d m t := by
  have hl : L96 c = layL a b e iv a0 a1 u0 u1 d m t := str_inj.1 hc
  have g1 := h.a00; have g2 := h.a01; have g3 := h.a10; have g4 := h.a11; have g5 := h.u00; have g6 := h.u01; have g7 := h.u10; have g8 := h.u11; have g9 := h.d0; have g10 := h.d1; have g11 := h.m0; have g12 := h.m1; have g13 := h.e1; have g14 := h.i1
  have d1 : dl c = dl a := congrArg (fun l : List UInt8 => l.take 32) hl
  have d2 : dl (bD c) = dl b := congrArg (fun l : List UInt8 => (l.take 64).drop 32) hl
  have x1 : (S c).extract 64 68 = putS e 4 := by
    rw [hc, ext_str, putS_e h]
    rfl
  have x2 : (S c).extract 68 76 = putS iv 8 := by
    rw [hc, ext_str, putS_iv h]
    rfl
  have p1 := putS_get (a := e) (by omega) (putE4 h.e0 h.e1)
  have p2 := putS_get (a := iv) (by omega) (putE8 h.i0)
  have e1 : eC c = e := by unfold eC; rw [x1]; exact p1.2
  have e2 : iC c = iv := by unfold iC; rw [x2]; exact p2.2
  have k76 : c 76 = by1 a0 := by have := congrArg (fun l : List UInt8 => l[76]?) hl; exact Option.some.inj this
  have k77 : c 77 = by1 u0 := by have := congrArg (fun l : List UInt8 => l[77]?) hl; exact Option.some.inj this
  have k78 : c 78 = by1 a1 := by have := congrArg (fun l : List UInt8 => l[78]?) hl; exact Option.some.inj this
  have k79 : c 79 = by1 u1 := by have := congrArg (fun l : List UInt8 => l[79]?) hl; exact Option.some.inj this
  have k80 : c 80 = by1 d := by have := congrArg (fun l : List UInt8 => l[80]?) hl; exact Option.some.inj this
  have k81 : c 81 = by1 m := by have := congrArg (fun l : List UInt8 => l[81]?) hl; exact Option.some.inj this
  have k82 : c 82 = (if t then 1 else 0) := by have := congrArg (fun l : List UInt8 => l[82]?) hl; exact Option.some.inj this
  have f76 : fC c 76 = a0 := by unfold fC; rw [k76]; exact by1_back (by omega) (by omega)
  have f77 : fC c 77 = u0 := by unfold fC; rw [k77]; exact by1_back (by omega) (by omega)
  have f78 : fC c 78 = a1 := by unfold fC; rw [k78]; exact by1_back (by omega) (by omega)
  have f79 : fC c 79 = u1 := by unfold fC; rw [k79]; exact by1_back (by omega) (by omega)
  have f80 : fC c 80 = d := by unfold fC; rw [k80]; exact by1_back (by omega) (by omega)
  have f81 : fC c 81 = m := by unfold fC; rw [k81]; exact by1_back (by omega) (by omega)
  have f82 : tC c = t := by
    unfold tC fC
    rw [k82]
    cases t <;> rfl
  have v1 : dV c = dV a := by rw [dV_u8, dV_u8, d1]
  have v2 : dV (bD c) = dV b := by rw [dV_u8, dV_u8, d2]
  constructor
  · refine ⟨by rw [x2]; exact p2.1, ?_, ?_⟩
    · rw [e1, e2, f76, f77, f78, f79, f80, f81, f82]
      exact ⟨h.e0, h.e1, h.i0, h.i1, h.d0, h.d1, h.m0, h.m1, h.a00, h.a01, h.a10, h.a11, h.u00, h.u01, h.u10, h.u11, h.at1, h.at2, h.at3, fun ht => v2.trans (h.at4 ht), h.md⟩
    · rw [e1, e2, f76, f77, f78, f79, f80, f81, f82, hc]
      refine congrArg str ?_
      unfold layL
      rw [d1, d2]
  · rw [e1, e2, f76, f77, f78, f79, f80, f81, f82]
    have r : ∀ x y : Dg, regL x y e iv a0 a1 u0 u1 d m t = dV x ++ dV y ++ [.int .i64 e, .int .i64 iv, .int .i64 a0, .int .i64 a1, .int .i64 u0, .int .i64 u1, .int .i64 d, .int .i64 m, .bool t] := fun _ _ => rfl
    rw [r, r, v1, v2]
theorem lay_some (a b : Dg) (e iv a0 a1 u0 u1 d m : Int) (t : Bool) : ∃ c : Dg, S c = str (layL a b e iv a0 a1 u0 u1 d m t) := by
  obtain ⟨c, hc⟩ := str_96 (s := str (layL a b e iv a0 a1 u0 u1 d m t)) (by rw [Ev.str_size, layL_length])
  exact ⟨c, hc.symm⟩
end
end Go.Proofs.Ytjlgbihllijpbab.Reg
