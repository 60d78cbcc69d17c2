/- R11.Lay. -/
import Derived.Test.YtjlgbihllijpbabReg2
import Derived.Test.YtjlgbihllijpbabEu
import Derived.Test.YtjlgbihllijpbabGeomSup2
namespace Go.Proofs.Ytjlgbihllijpbab.Reg
open Go Ev Be Geom
set_option linter.unusedVariables false
set_option linter.unusedSimpArgs false
set_option maxRecDepth 100000
theorem wb {x : Int} (h0 : 0 ≤ x) (h1 : x ≤ 255) : IntKind.u8.wrap x = ((by1 x).toNat : Int) := by
  rw [IntKind.wrap_u8]
  unfold by1
  rw [UInt8.toNat_ofNat']
  omega
theorem u8_one (l : List UInt8) : ∀ u ∈ u8s l, u.oneCell' = true := u8s_one
section
variable {a b : Dg} {e iv a0 a1 u0 u1 d m : Int} {t : Bool}
theorem zeros12 : Fnc Try.prog 48 [.int .i64 12] [] (Ret (.string (str (List.replicate 12 0))) []) := zeros 12 (by omega) (by omega)
theorem lay_eq (h : RR b e iv a0 a1 u0 u1 d m t) : str (layL a b e iv a0 a1 u0 u1 d m t) = str (dl a ++ dl b) ++ putS e 4 ++ putS iv 8 ++ str [by1 a0, by1 u0, by1 a1, by1 u1, by1 d, by1 m, by1 (atI t), 103] ++ str (List.replicate 12 0) := by
  rw [putS_e h, putS_iv h]
  simp only [str_append]
  cases t <;> rfl
theorem cut64 (a b : Dg) (junk : List Value) : ((([] ++ dV a ++ dV b) ++ junk).drop 0).take (dl a ++ dl b).length = u8s (dl a ++ dl b) := rfl
attribute [local irreducible] putE putS layL dl by1
set_option maxHeartbeats 8000000 in
theorem lay (a : Dg) (h : RR b e iv a0 a1 u0 u1 d m t) : Fnc Try.prog 23 [.agg (regL a b e iv a0 a1 u0 u1 d m t).toArray] [] (Ret (.string (str (layL a b e iv a0 a1 u0 u1 d m t))) []) := by
  have h1 := h.a00; have h2 := h.a01; have h3 := h.a10; have h4 := h.a11; have h5 := h.u00; have h6 := h.u01; have h7 := h.u10; have h8 := h.u11; have h9 := h.d0; have h10 := h.d1; have h11 := h.m0; have h12 := h.m1; have h13 := h.e1; have h14 := h.i1
  have hl : (dl a).length = 32 := by unfold dl; simp
  have hl' : (dl b).length = 32 := by unfold dl; simp
  have dlA : dV a = u8s (dl a) := dV_u8 a
  have dlB : dV b = u8s (dl b) := dV_u8 b
  have he := lay_eq (a := a) h
  rw [he]
  refine fn_intro Try.func23 (by kernel_rfl) ?_
  cases t
  all_goals simp only [atI, Bool.false_eq_true, if_false, if_true] at *
  all_goals repeat' ((conv => whnf); first
      | (refine nv (fun z hz => ?_); subst hz)
      | refine mk_nil rfl rfl rfl (fun S hS => ?_)
      | refine app_at (e := 5) (xs := []) (news := dV a) rfl rfl rfl rfl rfl hS rfl (by rw [dlA]; exact u8_one _) (by decide) (by decide) (Ev.cells_from rfl) (fun S1 hS1 => ?_)
      | refine app_at (e := 5) (xs := ([] ++ dV a)) (news := dV b) rfl rfl rfl rfl rfl hS1 rfl (by rw [dlB]; exact u8_one _) (by decide) (by decide) (Ev.cells_from rfl) (fun S2 hS2 => ?_)
      | refine ld1_lit ?_
      | refine ldN_lit ?_
      | refine nw (fun n => ?_)
      | refine st_lit rfl ?_
      | refine need (by first | rfl | omega) ?_
      | (refine wr (fun z hz => ?_); (try rw [Int.tdiv_eq_ediv_of_nonneg (by omega)] at hz); rw [w64 (by omega) (by omega)] at hz; subst hz)
      | (refine zv (fun z hz => ?_); (try rw [Int.tmod_eq_emod_of_nonneg (by omega)] at hz); subst hz)
      | (refine ifs (fun h => ?_) (fun h => ?_) <;> (try (exfalso; first | omega | with_reducible contradiction | with_reducible exact h rfl)))
      | refine fin_nil ⟨?_, rfl⟩)
  all_goals (rcases S2 with _ | ⟨g, cap, junk⟩; (exfalso; have := hS2.2; simp at this))
  all_goals (conv => whnf)
  all_goals refine draw_tree 6 (.take 0 (.take 2 (.take 6 (.take 10 (.take 11 (.take 14 (.take 15 (.take 18 (.take 19 (.take 22 (.take 23 (.take 26 (.take 29 (.take 32 (.take 33 (.take 1 (.take 3 (.take 7 (.take 12 (.take 13 (.take 16 (.take 17 (.take 20 (.take 21 (.take 24 (.take 25 (.take 27 (.take 28 (.take 30 (.take 31 (.two 4 34 (.take 5 (.two 8 34 (.take 9 (.two 34 37 (.two 35 37 (.take 36 (.only 37 (.take 38 (.take 39 .nil)))) (.only 35 (.take 36 (.take 38 (.take 39 .nil))))) (.only 34 (.only 35 (.take 36 (.take 38 (.take 39 .nil))))))) (.two 8 35 (.take 9 (.two 35 37 (.take 36 (.only 37 (.take 38 (.take 39 .nil)))) (.only 35 (.take 36 (.take 38 (.take 39 .nil)))))) (.only 8 (.take 9 (.take 36 (.only 37 (.take 38 (.take 39 .nil))))))))) (.two 4 35 (.take 5 (.two 8 35 (.take 9 (.two 35 37 (.take 36 (.only 37 (.take 38 (.take 39 .nil)))) (.only 35 (.take 36 (.take 38 (.take 39 .nil)))))) (.only 8 (.take 9 (.take 36 (.only 37 (.take 38 (.take 39 .nil)))))))) (.only 4 (.take 5 (.only 8 (.take 9 (.take 36 (.only 37 (.take 38 (.take 39 .nil)))))))))))))))))))))))))))))))))))))))) _ rfl (by kernel_rfl) (kept2 (n' := g) (.there .here) ?_)
  all_goals repeat' ((conv => whnf); first
      | refine And.intro ?_ ?_
      | refine kept2 (n' := g) (.there .here) ?_
      | refine kept2 (n' := g) (.there (.there .here)) ?_
      | (refine nv (fun z hz => ?_); subst hz)
      | (refine wr (fun z hz => ?_); rw [wb (by omega) (by omega)] at hz; subst hz)
      | refine fld1 ?_
      | refine fb2s_row (t := 5) (dl a ++ dl b) (cut64 a b junk) rfl rfl rfl (by simp [hl, hl']) ?_
      | refine b2s_at [by1 a0, by1 u0, by1 a1, by1 u1, by1 d, by1 m, by1 0, 103] rfl rfl rfl rfl rfl ?_
      | refine b2s_at [by1 a0, by1 u0, by1 a1, by1 u1, by1 d, by1 m, by1 1, 103] rfl rfl rfl rfl rfl ?_
      | refine call_val (n01 _ _ (by omega)) ?_
      | refine call_val zeros12 ?_
      | (have p1 := puts_size e 4; have p2 := puts_size iv 8; refine need (by rw [show IntKind.i64.max = 9223372036854775807 from rfl]; simp only [ByteArray.size_append, Ev.str_size, List.length_append, List.length_cons, List.length_nil, List.length_replicate, hl, hl']; omega) ?_; refine sv (fun z hz => ?_); subst hz)
      | refine ld1_lit ?_
      | refine ldN_lit ?_
      | refine nw (fun n => ?_)
      | refine st_lit rfl ?_
      | refine need (by first | rfl | omega) ?_
      | (refine wr (fun z hz => ?_); (try rw [Int.tdiv_eq_ediv_of_nonneg (by omega)] at hz); rw [w64 (by omega) (by omega)] at hz; subst hz)
      | (refine zv (fun z hz => ?_); (try rw [Int.tmod_eq_emod_of_nonneg (by omega)] at hz); subst hz)
      | (refine ifs (fun h => ?_) (fun h => ?_) <;> (try (exfalso; first | omega | with_reducible contradiction | with_reducible exact h rfl)))
      | refine fin_nil ⟨?_, rfl⟩)
  all_goals first | rfl | skip
end
end Go.Proofs.Ytjlgbihllijpbab.Reg
