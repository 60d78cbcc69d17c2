/- The law GeomSupers: the first block's bytes. -/
import Derived.Test.YtjlgbihllijpbabEr
import Derived.Test.YtjlgbihllijpbabGeomM
import Derived.Test.YtjlgbihllijpbabGeomLaws
import Derived.Test.YtjlgbihllijpbabBe5
namespace Go.Proofs.Ytjlgbihllijpbab.Geom
open Go Ev Be
set_option linter.unusedVariables false
set_option linter.unusedSimpArgs false
set_option maxRecDepth 100000

def superS (b s m : Int) (c : ByteArray) : ByteArray := if Right b s m ∧ c.size = 32 then supS b s m c else { data := #[] }
def superE (b s m : Int) (c : ByteArray) : Int := if Right b s m ∧ c.size = 32 then 0 else 2
theorem super_no {b s m : Int} {c : ByteArray} (h : ¬ (Right b s m ∧ c.size = 32)) : Ending.returned (oneOrMany [.string { data := #[] }, .int .i64 2]) = .returned (.tuple #[.string (superS b s m c), .int .i64 (superE b s m c)]) := by
  have e1 : superS b s m c = { data := #[] } := if_neg h
  have e2 : superE b s m c = 2 := if_neg h
  rw [e1, e2]; rfl
theorem super_ok {b s m : Int} {c : ByteArray} (h : Right b s m) (h' : c.size = 32) : Ending.returned (oneOrMany [.string (str (headL b s m) ++ c), .int .i64 0]) = .returned (.tuple #[.string (superS b s m c), .int .i64 (superE b s m c)]) := by
  have e1 : superS b s m c = supS b s m c := if_pos ⟨h, h'⟩
  have e2 : superE b s m c = 0 := if_pos ⟨h, h'⟩
  rw [e1, e2]; rfl
attribute [local irreducible] rowE rowS padE padS putE putS

theorem size4 : ({ data := #[99, 108, 114, 116] } : ByteArray).size = 4 := rfl
theorem super (b s m : Int) (c : ByteArray) (hc : c.size ≤ 140737488351232) : Fnc Try.prog 12 [.agg #[.int .i64 b, .int .i64 s, .int .i64 m], .string c] [] (Ret (.tuple #[.string (superS b s m c), .int .i64 (superE b s m c)]) []) := by
  refine fn_intro Try.func12 (by kernel_rfl) ?_
  repeat' ((conv => whnf); first
      | refine call_if (check _ _ _) (fun h => ?_) (fun h => ?_)
      | (have hr := row_head ‹Right b s m›; refine call_lit (row 2 [b, s] (Sl.at_ _ 0 2) trivial (by simp)) ?_; rw [hr.1, hr.2])
      | refine call_val (put _ _) ?_
      | (have p1 := putS_le (x := b) (w := 2); have p2 := putS_le (x := s) (w := 2); have p3 := putS_le (x := m) (w := 8); refine need (by rw [show IntKind.i64.max = 9223372036854775807 from rfl]; simp only [ByteArray.size_append, size4, str_size, headL_length]; omega) ?_; refine sv (fun z hz => ?_); subst hz)
      | (have p1 := putS_le (x := b) (w := 2); have p2 := putS_le (x := s) (w := 2); have p3 := putS_le (x := m) (w := 8); have hp := head_pad ‹Right b s m›; refine call_val (pad _ 32 (by simp only [ByteArray.size_append, size4]; omega)) ?_; rw [hp.1, hp.2])
      | (refine need (by rw [show IntKind.i64.max = 9223372036854775807 from rfl, str_size, headL_length]; omega) ?_; refine sv (fun z hz => ?_); subst hz)
      | refine ld1_lit ?_
      | refine ldN_lit ?_
      | refine nw (fun n => ?_)
      | refine st_lit rfl ?_
      | refine need (by first | rfl | omega) ?_
      | (refine wr (fun z hz => ?_); (try rw [Int.tdiv_eq_ediv_of_nonneg (by omega)] at hz); rw [w64 (by omega) (by omega)] at hz; subst hz)
      | (refine zv (fun z hz => ?_); (try rw [Int.tmod_eq_emod_of_nonneg (by omega)] at hz); subst hz)
      | (refine ifs (fun h => ?_) (fun h => ?_) <;> (try (exfalso; first | omega | with_reducible contradiction | with_reducible exact h rfl)))
      | refine fin_nil ⟨?_, rfl⟩)
  all_goals first
    | exact super_ok ‹Right b s m› (by omega)
    | exact super_no (fun hc => ‹¬ Right b s m› hc.1)
    | exact super_no (by omega)
    | skip

theorem n01 (n w : Int) (hn : n ≤ 9223372036854775807) : Fnc Try.prog 53 [.int .i64 n, .int .i64 w] [] (Ret (.string (putS n w)) []) := by
  refine fn_intro Try.func53 (by kernel_rfl) ?_
  repeat' ((conv => whnf); first
      | refine call_val (put01 _ _ hn) ?_
      | refine ld1_lit ?_
      | refine ldN_lit ?_
      | refine nw (fun n => ?_)
      | refine st_lit rfl ?_
      | refine need (by first | rfl | omega) ?_
      | (refine wr (fun z hz => ?_); (try rw [Int.tdiv_eq_ediv_of_nonneg (by omega)] at hz); rw [w64 (by omega) (by omega)] at hz; subst hz)
      | (refine zv (fun z hz => ?_); (try rw [Int.tmod_eq_emod_of_nonneg (by omega)] at hz); subst hz)
      | (refine ifs (fun h => ?_) (fun h => ?_) <;> (try (exfalso; first | omega | with_reducible contradiction | with_reducible exact h rfl)))
      | refine fin_nil ⟨?_, rfl⟩)
  all_goals rfl

theorem sup_eq {b s m : Int} {c : ByteArray} (h : Right b s m) : supS b s m c = ({ data := #[99, 108, 114, 116] } : ByteArray) ++ putS b 2 ++ putS s 2 ++ putS m 8 ++ str (List.replicate 16 0) ++ c := by
  rw [putS_ok (right_b h), putS_ok (right_s h), putS_ok (right_m h), show ({ data := #[99, 108, 114, 116] } : ByteArray) = str [99, 108, 114, 116] from rfl]
  simp only [str_append]
  rfl
theorem super_iff {s : ByteArray} (h : s.size = 64) : readOk s ↔ superE (gB s) (gS s) (gM s) (s.extract 32 64) = 0 ∧ superS (gB s) (gS s) (gM s) (s.extract 32 64) = s := by
  unfold readOk superE superS
  have hz : (s.extract 32 64).size = 32 := by rw [ByteArray.size_extract]; omega
  by_cases hr : Right (gB s) (gS s) (gM s)
  · rw [if_pos ⟨hr, hz⟩, if_pos ⟨hr, hz⟩]; simp [h, hr]
  · rw [if_neg (fun hc => hr hc.1), if_neg (fun hc => hr hc.1)]; simp [hr]
theorem super09 (b s m : Int) (c : ByteArray) (h : Right b s m) (hc : c.size ≤ 140737488351232) : Fnc Try.prog 18 [.agg #[.int .i64 b, .int .i64 s, .int .i64 m], .string c] [] (Ret (.string (supS b s m c)) []) := by
  have hM : m ≤ 1099511627776 := h.2.2.2.2.2.2
  have hB : b ≤ 64 := h.2.1
  have hS : s ≤ 8 := h.2.2.2.2.1
  refine fn_intro Try.func18 (by kernel_rfl) ?_
  repeat' ((conv => whnf); first
      | refine draw_quiet rfl (by kernel_rfl) ?_
      | refine qld1_lit ?_
      | refine qcall_val (n01 _ _ (by omega)) ?_
      | refine qcall_val (zeros 16 (by omega) (by omega)) ?_
      | (have p1 := putS_le (x := b) (w := 2); have p2 := putS_le (x := s) (w := 2); have p3 := putS_le (x := m) (w := 8); refine need (by rw [show IntKind.i64.max = 9223372036854775807 from rfl]; simp only [ByteArray.size_append, size4, str_size, List.length_replicate]; omega) ?_; refine sv (fun z hz => ?_); subst hz)
      | refine ld1_lit ?_
      | refine ldN_lit ?_
      | refine nw (fun n => ?_)
      | refine st_lit rfl ?_
      | refine need (by first | rfl | omega) ?_
      | (refine wr (fun z hz => ?_); (try rw [Int.tdiv_eq_ediv_of_nonneg (by omega)] at hz); rw [w64 (by omega) (by omega)] at hz; subst hz)
      | (refine zv (fun z hz => ?_); (try rw [Int.tmod_eq_emod_of_nonneg (by omega)] at hz); subst hz)
      | (refine ifs (fun h => ?_) (fun h => ?_) <;> (try (exfalso; first | omega | with_reducible contradiction | with_reducible exact h rfl)))
      | refine fin_nil ⟨?_, rfl⟩)
  all_goals (conv => whnf)
  rw [sup_eq h]; rfl
theorem read_no {s : ByteArray} (h : ¬ readOk s) : Ending.returned (oneOrMany [.agg #[.int .i64 0, .int .i64 0, .int .i64 0], .string { data := #[] }, .int .i64 6]) =
    .returned (if readOk s then .tuple #[.agg #[.int .i64 (gB s), .int .i64 (gS s), .int .i64 (gM s)], .string (s.extract 32 64), .int .i64 0] else .tuple #[.agg #[.int .i64 0, .int .i64 0, .int .i64 0], .string { data := #[] }, .int .i64 6]) := by rw [if_neg h]; rfl
theorem read_ok {s : ByteArray} (h : readOk s) : Ending.returned (oneOrMany [.agg #[.int .i64 (gB s), .int .i64 (gS s), .int .i64 (gM s)], .string (s.extract 32 64), .int .i64 0]) =
    .returned (if readOk s then .tuple #[.agg #[.int .i64 (gB s), .int .i64 (gS s), .int .i64 (gM s)], .string (s.extract 32 64), .int .i64 0] else .tuple #[.agg #[.int .i64 0, .int .i64 0, .int .i64 0], .string { data := #[] }, .int .i64 6]) := by rw [if_pos h]; rfl
attribute [local irreducible] superS superE gB gS gM nuN nuE nuA
theorem gread (s : ByteArray) (hs : s.size ≤ 140737488351232) : Fnc Try.prog 13 [.string s] []
    (Ret (if readOk s then .tuple #[.agg #[.int .i64 (gB s), .int .i64 (gS s), .int .i64 (gM s)], .string (s.extract 32 64), .int .i64 0] else .tuple #[.agg #[.int .i64 0, .int .i64 0, .int .i64 0], .string { data := #[] }, .int .i64 6]) []) := by
  refine fn_intro Try.func13 (by kernel_rfl) ?_
  repeat' ((conv => whnf); first
      | (refine sv (fun z hz => ?_); (first | (rw [show (s.size : Int).toNat = 64 by omega] at hz; first | (change z = s.extract 4 64 at hz) | (change z = s.extract 32 64 at hz)) | skip); subst hz)
      | (refine call_fn (read _) .nil (fun e A' hq => ?_); obtain ⟨r, h1, h2⟩ := hq; subst h1; subst h2; have h64 : s.size = 64 := (by omega); obtain ⟨u1, u2, u3, u4, u5⟩ := read_nums h64; have h60 : (s.extract 4 64).size = 60 := by rw [ByteArray.size_extract]; omega)
      | (refine call_ret (num _ _ 0 2 (by omega) (by omega) (by omega)) (.cons (.there .here) .nil) ?_; rw [u1, u2])
      | (refine call_ret (num _ _ 2 2 (by omega) (by omega) (by omega)) (.cons .here .nil) ?_; rw [u3, u4])
      | (refine call_ret (num _ _ 4 8 (by omega) (by omega) (by omega)) (.cons .here .nil) ?_; rw [u5])
      | refine ld1_lit ?_
      | refine ldN_lit ?_
      | refine nw (fun n => ?_)
      | refine st_lit rfl ?_
      | refine need (by first | rfl | omega) ?_
      | (refine wr (fun z hz => ?_); (try rw [Int.tdiv_eq_ediv_of_nonneg (by omega)] at hz); rw [w64 (by omega) (by omega)] at hz; subst hz)
      | (refine zv (fun z hz => ?_); (try rw [Int.tmod_eq_emod_of_nonneg (by omega)] at hz); subst hz)
      | (refine ifs (fun h => ?_) (fun h => ?_) <;> (try (exfalso; first | omega | with_reducible contradiction | with_reducible exact h rfl)))
      | refine fin_nil ⟨?_, rfl⟩)
  refine draw_quiet rfl (by kernel_rfl) ?_
  repeat' ((conv => whnf); first
      | (refine sv (fun z hz => ?_); (first | (rw [show (s.size : Int).toNat = 64 by omega] at hz; first | (change z = s.extract 4 64 at hz) | (change z = s.extract 32 64 at hz)) | skip); subst hz)
      | refine draw_any 12 [(1, true), (2, true), (0, false), (3, false), (4, true), (5, true)] [] rfl (by kernel_rfl) ?_
      | refine kept_nil ?_
      | refine qcall_val (super _ _ _ _ (by rw [ByteArray.size_extract]; omega)) ?_
      | refine qld1_lit ?_
      | refine qldN_lit ?_
      | refine ld1_lit ?_
      | refine ldN_lit ?_
      | refine nw (fun n => ?_)
      | refine st_lit rfl ?_
      | refine need (by first | rfl | omega) ?_
      | (refine wr (fun z hz => ?_); (try rw [Int.tdiv_eq_ediv_of_nonneg (by omega)] at hz); rw [w64 (by omega) (by omega)] at hz; subst hz)
      | (refine zv (fun z hz => ?_); (try rw [Int.tmod_eq_emod_of_nonneg (by omega)] at hz); subst hz)
      | (refine ifs (fun h => ?_) (fun h => ?_) <;> (try (exfalso; first | omega | with_reducible contradiction | with_reducible exact h rfl)))
      | refine fin_nil ⟨?_, rfl⟩)
  all_goals (conv => whnf)
  all_goals first
    | exact read_no (fun hc => by have := hc.1; omega)
    | exact read_no (fun hc => ‹¬ s.extract _ _ = _› (read_iff.1 hc).2.1)
    | exact read_no (fun hc => ‹¬ _› ((super_iff h64).1 hc).1)
    | exact read_no (fun hc => ‹¬ superS _ _ _ _ = _› ((super_iff h64).1 hc).2)
    | exact read_ok ((super_iff h64).2 ⟨‹_›, ‹_›⟩)
    | skip
end Go.Proofs.Ytjlgbihllijpbab.Geom
