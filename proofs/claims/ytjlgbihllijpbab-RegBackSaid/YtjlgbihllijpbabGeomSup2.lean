/- The law GeomSupers: its Go function returns true. -/
import Derived.Test.YtjlgbihllijpbabGeomSup
namespace Go.Proofs.Ytjlgbihllijpbab.Geom
open Go Ev Be
set_option linter.unusedVariables false
set_option linter.unusedSimpArgs false
set_option maxRecDepth 100000

theorem ref_no {s : ByteArray} (h : ¬ readOk s) : Ending.returned (oneOrMany [.agg #[.int .i64 0, .int .i64 0, .int .i64 0], .string { data := #[] }, .bool false]) =
    .returned (if readOk s then .tuple #[.agg #[.int .i64 (gB s), .int .i64 (gS s), .int .i64 (gM s)], .string (s.extract 32 64), .bool true] else .tuple #[.agg #[.int .i64 0, .int .i64 0, .int .i64 0], .string { data := #[] }, .bool false]) := by rw [if_neg h]; rfl
theorem ref_ok {s : ByteArray} (h : readOk s) : Ending.returned (oneOrMany [.agg #[.int .i64 (gB s), .int .i64 (gS s), .int .i64 (gM s)], .string (s.extract 32 64), .bool true]) =
    .returned (if readOk s then .tuple #[.agg #[.int .i64 (gB s), .int .i64 (gS s), .int .i64 (gM s)], .string (s.extract 32 64), .bool true] else .tuple #[.agg #[.int .i64 0, .int .i64 0, .int .i64 0], .string { data := #[] }, .bool false]) := by rw [if_pos h]; rfl
theorem sup_size (b s m : Int) (c : ByteArray) : (supS b s m c).size = 32 + c.size := by unfold supS; rw [ByteArray.size_append, str_size, headL_length]
attribute [local irreducible] superS superE getN getE supS readOk
theorem zeros16 : Fnc Try.prog 48 [.int .i64 16] [] (Ret (.string (str (List.replicate 16 0))) []) := zeros 16 (by omega) (by omega)
set_option maxHeartbeats 1000000 in
theorem rread (s : ByteArray) (hs : s.size ≤ 140737488351232) : Fnc Try.prog 14 [.string s] []
    (Ret (if readOk s then .tuple #[.agg #[.int .i64 (gB s), .int .i64 (gS s), .int .i64 (gM s)], .string (s.extract 32 64), .bool true] else .tuple #[.agg #[.int .i64 0, .int .i64 0, .int .i64 0], .string { data := #[] }, .bool false]) []) := by
  refine fn_intro Try.func14 (by kernel_rfl) ?_
  repeat' ((conv => whnf); first
      | (refine sv (fun z hz => ?_); (try rw [show (s.size : Int).toNat = 64 by omega] at hz); (try simp only [Int.reduceToNat] at hz); subst hz)
      | refine draw_any 9 [(1, true), (2, true), (0, false), (3, false), (4, true), (5, true)] [] rfl (by kernel_rfl) ?_
      | refine draw_quiet rfl (by kernel_rfl) ?_
      | refine kept_nil ?_
      | refine qcall_val zeros16 ?_
      | refine call_val (get01 _) ?_
      | refine call_bool (right _ _ _) (fun h => ?_) (fun h => ?_)
      | refine ld1_lit ?_
      | refine ldN_lit ?_
      | refine nw (fun n => ?_)
      | refine st_lit rfl ?_
      | refine need (by first | rfl | omega) ?_
      | (refine wr (fun z hz => ?_); (try rw [Int.tdiv_eq_ediv_of_nonneg (by omega)] at hz); rw [w64 (by omega) (by omega)] at hz; subst hz)
      | (refine zv (fun z hz => ?_); (try rw [Int.tmod_eq_emod_of_nonneg (by omega)] at hz); subst hz)
      | (refine ifs (fun h => ?_) (fun h => ?_) <;> (try (exfalso; first | omega | with_reducible contradiction | with_reducible exact h rfl)))
      | refine fin_nil ⟨?_, rfl⟩)
  all_goals (conv => whnf)
  all_goals first
    | exact ref_ok (read_iff.2 ⟨by omega, ‹s.extract 0 4 = _›, ‹s.extract 16 32 = _›, ‹getE _ = 0›, ‹Right _ _ _›⟩)
    | exact ref_no (fun hc => by have := (read_iff.1 hc).1; omega)
    | exact ref_no (fun hc => ‹¬ s.extract 0 4 = _› (read_iff.1 hc).2.1)
    | exact ref_no (fun hc => ‹¬ s.extract 16 32 = _› (read_iff.1 hc).2.2.1)
    | exact ref_no (fun hc => ‹¬ getE _ = _› (read_iff.1 hc).2.2.2.1)
    | exact ref_no (fun hc => ‹¬ Right _ _ _› (read_iff.1 hc).2.2.2.2)
    | skip

theorem check_ok {b s m : Int} (h : Right b s m) : Fnc Try.prog 15 [.agg #[.int .i64 b, .int .i64 s, .int .i64 m]] [] (Ret (.int .i64 0) []) := by have := check b s m; rwa [if_pos h] at this
theorem check_no {b s m : Int} (h : ¬ Right b s m) : Fnc Try.prog 15 [.agg #[.int .i64 b, .int .i64 s, .int .i64 m]] [] (Ret (.int .i64 2) []) := by have := check b s m; rwa [if_neg h] at this
theorem right_ok {b s m : Int} (h : Right b s m) : Fnc Try.prog 16 [.agg #[.int .i64 b, .int .i64 s, .int .i64 m]] [] (Ret (.bool true) []) := by have := right b s m; rwa [decide_eq_true h] at this
theorem right_no {b s m : Int} (h : ¬ Right b s m) : Fnc Try.prog 16 [.agg #[.int .i64 b, .int .i64 s, .int .i64 m]] [] (Ret (.bool false) []) := by have := right b s m; rwa [decide_eq_false h] at this
theorem gread_ok {s : ByteArray} (hs : s.size ≤ 140737488351232) (h : readOk s) : Fnc Try.prog 13 [.string s] [] (Ret (.tuple #[.agg #[.int .i64 (gB s), .int .i64 (gS s), .int .i64 (gM s)], .string (s.extract 32 64), .int .i64 0]) []) := by have := gread s hs; rwa [if_pos h] at this
theorem gread_no {s : ByteArray} (hs : s.size ≤ 140737488351232) (h : ¬ readOk s) : Fnc Try.prog 13 [.string s] [] (Ret (.tuple #[.agg #[.int .i64 0, .int .i64 0, .int .i64 0], .string { data := #[] }, .int .i64 6]) []) := by have := gread s hs; rwa [if_neg h] at this
theorem rread_ok {s : ByteArray} (hs : s.size ≤ 140737488351232) (h : readOk s) : Fnc Try.prog 14 [.string s] [] (Ret (.tuple #[.agg #[.int .i64 (gB s), .int .i64 (gS s), .int .i64 (gM s)], .string (s.extract 32 64), .bool true]) []) := by have := rread s hs; rwa [if_pos h] at this
theorem rread_no {s : ByteArray} (hs : s.size ≤ 140737488351232) (h : ¬ readOk s) : Fnc Try.prog 14 [.string s] [] (Ret (.tuple #[.agg #[.int .i64 0, .int .i64 0, .int .i64 0], .string { data := #[] }, .bool false]) []) := by have := rread s hs; rwa [if_neg h] at this
theorem super_t {b s m : Int} {c : ByteArray} (hc : c.size ≤ 140737488351232) (h : Right b s m ∧ c.size = 32) : Fnc Try.prog 12 [.agg #[.int .i64 b, .int .i64 s, .int .i64 m], .string c] [] (Ret (.tuple #[.string (supS b s m c), .int .i64 0]) []) := by
  have := super b s m c hc
  rwa [show superS b s m c = supS b s m c from by unfold superS; exact if_pos h, show superE b s m c = 0 from by unfold superE; exact if_pos h] at this
theorem super_f {b s m : Int} {c : ByteArray} (hc : c.size ≤ 140737488351232) (h : ¬ (Right b s m ∧ c.size = 32)) : Fnc Try.prog 12 [.agg #[.int .i64 b, .int .i64 s, .int .i64 m], .string c] [] (Ret (.tuple #[.string { data := #[] }, .int .i64 2]) []) := by
  have := super b s m c hc
  rwa [show superS b s m c = { data := #[] } from by unfold superS; exact if_neg h, show superE b s m c = 2 from by unfold superE; exact if_neg h] at this
theorem kGeom : kindsOf Try.prog 3 23 = some [.int .i64, .int .i64, .int .i64] := by kernel_rfl
theorem fGeom (a b c : Int) : Fits [.int .i64, .int .i64, .int .i64] [.int .i64 a, .int .i64 b, .int .i64 c] := ⟨⟨_, rfl⟩, ⟨_, rfl⟩, ⟨_, rfl⟩, trivial⟩
set_option maxHeartbeats 4000000 in
theorem geomSupers (b s m : Int) (c t : ByteArray) (hc : c.size ≤ 140737488351232) (ht : t.size ≤ 140737488351232) : Fnc Try.prog 3 [.agg #[.int .i64 b, .int .i64 s, .int .i64 m], .string c, .string t] [] (Ret (.bool true) []) := by
  refine fn_intro Try.func3 (by kernel_rfl) ?_
  by_cases hR : Right b s m <;> by_cases h32 : c.size = 32 <;> by_cases hT : readOk t
  repeat' ((conv => whnf); first
      | refine call_val (super_t hc ⟨‹_›, ‹_›⟩) ?_
      | refine call_val (super_f hc (fun hq => ‹¬ Right _ _ _› hq.1)) ?_
      | refine call_val (super_f hc (fun hq => ‹¬ c.size = 32› hq.2)) ?_
      | refine call_val (gread_ok ht ‹_›) ?_
      | refine call_val (gread_no ht ‹_›) ?_
      | refine call_val (rread_ok ht ‹_›) ?_
      | refine call_val (rread_no ht ‹_›) ?_
      | (obtain ⟨q1, q2, q3, q4, q5⟩ := sup_back ‹Right b s m› ‹c.size = 32›; refine call_val (gread_ok (s := supS b s m c) (by rw [sup_size]; omega) q1) ?_; rw [q2, q3, q4, q5])
      | refine call_val (right_ok ‹_›) ?_
      | refine call_val (right_no ‹_›) ?_
      | refine call_val awake ?_
      | refine draw_quiet rfl (by kernel_rfl) ?_
      | refine qldN_lit ?_
      | refine qcall_val (check_ok ‹_›) ?_
      | refine qcall_val (check_no ‹_›) ?_
      | refine qcall_val (right_ok ‹_›) ?_
      | refine qcall_val (right_no ‹_›) ?_
      | refine qcall_val (super09 b s m c hR hc) ?_
      | refine call_val (super09 b s m c hR hc) ?_
      | refine qcall_val awake ?_
      | refine agg_eql kGeom (by decide) rfl rfl rfl rfl (by kernel_rfl) (fGeom _ _ _) (fGeom _ _ _) ?_
      | refine agg_neq kGeom (by decide) rfl rfl rfl rfl (by kernel_rfl) (fGeom _ _ _) (fGeom _ _ _) ?_
      | refine qagg_neq kGeom (by decide) rfl rfl rfl rfl (by kernel_rfl) (fGeom _ _ _) (fGeom _ _ _) ?_
      | refine qagg_eql kGeom (by decide) rfl rfl rfl rfl (by kernel_rfl) (fGeom _ _ _) (fGeom _ _ _) ?_
      | exact fin_nil ⟨ret_bool rfl, rfl⟩
      | refine ld1_lit ?_
      | refine ldN_lit ?_
      | refine nw (fun n => ?_)
      | refine st_lit rfl ?_
      | refine need (by first | rfl | omega) ?_
      | (refine wr (fun z hz => ?_); (try rw [Int.tdiv_eq_ediv_of_nonneg (by omega)] at hz); rw [w64 (by omega) (by omega)] at hz; subst hz)
      | (refine zv (fun z hz => ?_); (try rw [Int.tmod_eq_emod_of_nonneg (by omega)] at hz); subst hz)
      | (refine ifs (fun h => ?_) (fun h => ?_) <;> (try (exfalso; first | omega | with_reducible contradiction | with_reducible exact h rfl)))
      | refine fin_nil ⟨?_, rfl⟩)
  all_goals done
end Go.Proofs.Ytjlgbihllijpbab.Geom
