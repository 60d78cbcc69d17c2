/- Texts of this proof, merged. -/
import Derived.Test.YtkjamonkohpcnaaGreatProg
import Derived.Test.YtkjamonkohpcnaaGreatAk12
import Derived.Test.YtkjamonkohpcnaaGreatAk13
import Derived.Test.YtkjamonkohpcnaaGreatAk4
import Derived.KernelRfl
import Derived.Test.YtkjamonkohpcnaaGreatAk5
set_option linter.unusedVariables false
set_option linter.unusedSimpArgs false
set_option linter.unusedSectionVars false
set_option maxRecDepth 100000
set_option maxHeartbeats 16000000
namespace Go.Proofs.YtkjamonkohpcnaaGreat
namespace Be
open Go Ev
abbrev ints (l : List Int) : List Value := l.map (.int .i64)
theorem row_no {w e : Int} {l : List Int} {A : List Blk} (h : rowE w l = e) (h0 : e ≠ 0) : Ret (.tuple #[.string (rowS w l), .int .i64 (rowE w l)]) A (.returned (oneOrMany [.string { data := #[] }, .int .i64 e])) A := by
 have : rowS w l = str [] := if_neg (by omega)
 rw [this, h]; exact ⟨rfl, rfl⟩
theorem row_bad {w x : Int} {l : List Int} {i : Nat} {A : List Blk} (h1 : ¬ 512 < l.length) (h2 : ¬ (w < 1 ∨ 8 < w)) (hx : l[i]? = some x) (hf : fe w (l.take i) = 0) (h : ¬ putE x w = 0) :
 Ret (.tuple #[.string (rowS w l), .int .i64 (rowE w l)]) A (.returned (oneOrMany [.string { data := #[] }, .int .i64 (putE x w)])) A := by
 have e := fe_take hx hf
 refine row_no ?_ h
 rw [rowE, if_neg h1, if_neg h2, fe_stop (i := i + 1) (by rw [e]; exact h), e]
theorem row_good {w : Int} {l : List Int} {i : Nat} {A : List Blk} (h1 : ¬ 512 < l.length) (h2 : ¬ (w < 1 ∨ 8 < w)) (hi : l.length ≤ i) (hf : fe w (l.take i) = 0) :
 Ret (.tuple #[.string (rowS w l), .int .i64 (rowE w l)]) A (.returned (oneOrMany [.string (str (cat w (l.take i))), .int .i64 0])) A := by
 rw [List.take_of_length_le hi] at *
 have e : rowE w l = 0 := by rw [rowE, if_neg h1, if_neg h2, hf]
 have e2 : rowS w l = str (cat w l) := if_pos e
 rw [e2, e]; exact ⟨rfl, rfl⟩
theorem row (w : Int) (l : List Int) (S : Sl) (hS : S.ok l.length) (hl : l.length ≤ 9223372036854775807) :
 Fnc Tryz.prog 67 [.int .i64 w, S.val l.length] (S.blk (ints l)) (Ret (.tuple #[.string (rowS w l), .int .i64 (rowE w l)]) (S.blk (ints l))) := by
 refine fn_intro Tryz.func67 (by kernel_rfl) ?_
 repeat' ((conv => whnf); first
  | refine ld1_lit ?_ | refine nw (fun n => ?_) | (refine ifs (fun h => ?_) (fun h => ?_) <;> try (exfalso; first | omega | with_reducible first | contradiction | exact h rfl)))
 rotate_right
 · rename_i b0 h1 h2
   refine loop_rule [23] (fun vs M m => ∃ (i : Nat) (R : Own), vs = [.int .i64 i] ∧ i ≤ l.length ∧ fe w (l.take i) = 0 ∧ R.ok 1 (cat w (l.take i)).length (u8s (cat w (l.take i))) ∧ m = l.length - i ∧
    M = ⟨n, .cells [R.val (cat w (l.take i)).length] 142⟩ :: ⟨b0, .cells [.int .i64 w] 3⟩ :: (R.blk 5 (u8s (cat w (l.take i))) ++ S.blk (ints l))) rfl ?_ ?_
   · exact fin_all ⟨_, 0, .nil, rfl, by omega, rfl, ⟨rfl, rfl⟩, rfl, rfl⟩
   rintro vs junk M' m ⟨i, R, rfl, hi, hf, hR, rfl, rfl⟩
   repeat' ((conv => whnf); first
    | (rcases S with ⟨p, c⟩ | ⟨b, off, cap⟩; (exfalso; have hS : l.length = 0 := hS; omega)) | (refine need (by constructor <;> omega) ?_) | (refine nv (fun z hz => ?_); simp at hz; replace hz := hz.symm; subst hz) | (obtain ⟨x, hx⟩ : ∃ x, l[i]? = some x := ⟨l[i]'(by omega), List.getElem?_eq_getElem (by omega)⟩; refine ld1_ro (o := off) (cs := ints l) (j := i) rfl (by simp only [List.getElem?_map, hx]; rfl) ?_) | refine call_in Tryz.func131 (by kernel_rfl) ?_ | refine call_val (put _ _) ?_ | refine b2s_own (t := 5) (l := cat w (l.take i)) hR rfl rfl rfl ?_ | refine app_str (e := 5) (xs := u8s (cat w (l.take i))) rfl rfl rfl rfl rfl rfl hR (by have := cat_le w (l.take i); have := putS_le (x := x) (w := w); rw [List.length_take] at *; omega) (fun R' hR' => ?_) | exact fin_drop (fin_drop (fin_right (fin_all (row_bad (by omega) (by omega) hx hf ‹_›))))
    | exact fin_drop (fin_drop (fin_right (fin_all (row_good (i := i) (by omega) (by omega) (by omega) hf))))
    | refine fin_all ?_ | refine ld1_lit ?_ | refine st_lit rfl ?_ | (refine wr (fun z hz => ?_); (try rw [Int.tdiv_eq_ediv_of_nonneg (by omega)] at hz); rw [w64 (by omega) (by omega)] at hz; subst hz) | (refine ifs (fun h => ?_) (fun h => ?_) <;> try (exfalso; first | omega | with_reducible first | contradiction | exact h rfl)))
   have ec : cat w (l.take (i + 1)) = cat w (l.take i) ++ (putS x w).data.toList := by
    rw [List.take_add_one, hx]; exact cat_snoc w _ x
   have el : (cat w (l.take (i + 1))).length = (cat w (l.take i)).length + (putS x w).size := by
    rw [ec, List.length_append]; rfl
   have eu : u8s (cat w (l.take (i + 1))) = u8s (cat w (l.take i)) ++ u8s (putS x w).data.toList := by rw [ec, u8s_append]
   (conv => whnf)
   refine ⟨rfl, fin_all ⟨l.length - (i + 1), by omega, i + 1, R', rfl, by omega, by rw [fe_take hx hf]; exact h, by rw [el, eu]; exact hR', rfl, ?_⟩⟩
   rw [el, eu]
 all_goals (conv => whnf)
 · exact fin_drop (fin_all (row_no (if_pos (by omega)) (by omega)))
 · exact fin_drop (fin_all (row_no (by rw [rowE, if_neg (by omega), if_pos (by omega)]) (by omega)))
 · exact fin_drop (fin_all (row_no (by rw [rowE, if_neg (by omega), if_pos (by omega)]) (by omega)))
end Be
namespace Geom
open Go Ev Be
def superS (b s m : Int) (c : ByteArray) : ByteArray := if Right b s m ∧ c.size = 32 then supS b s m c else { data := #[] }
def superE (b s m : Int) (c : ByteArray) : Int := if Right b s m ∧ c.size = 32 then 0 else 2
theorem super_no {b s m : Int} {c : ByteArray} (h : ¬ (Right b s m ∧ c.size = 32)) : Ending.returned (oneOrMany [.string { data := #[] }, .int .i64 2]) = .returned (.tuple #[.string (superS b s m c), .int .i64 (superE b s m c)]) := by
 have e1 : superS b s m c = { data := #[] } := if_neg h
 have e2 : superE b s m c = 2 := if_neg h
 rw [e1, e2]; rfl
theorem super_ok {b s m : Int} {c : ByteArray} (h : Right b s m) (h' : c.size = 32) : Ending.returned (oneOrMany [.string (str (headL b s m) ++ c), .int .i64 0]) = .returned (.tuple #[.string (superS b s m c), .int .i64 (superE b s m c)]) := by
 have e1 : superS b s m c = supS b s m c := if_pos ⟨h, h'⟩
 have e2 : superE b s m c = 0 := if_pos ⟨h, h'⟩
 rw [e1, e2]; rfl
attribute [local irreducible] rowE rowS padE padS putE putS
theorem size4 : ({ data := #[99, 108, 114, 116] } : ByteArray).size = 4 := rfl
theorem super (b s m : Int) (c : ByteArray) (hc : c.size ≤ 140737488351232) : Fnc Tryz.prog 89 [.agg #[.int .i64 b, .int .i64 s, .int .i64 m], .string c] [] (Ret (.tuple #[.string (superS b s m c), .int .i64 (superE b s m c)]) []) := by
 refine fn_intro Tryz.func89 (by kernel_rfl) ?_
 repeat' ((conv => whnf); first
  | refine call_if (check _ _ _) (fun h => ?_) (fun h => ?_) | (have hr := row_head ‹Right b s m›; refine call_lit (row 2 [b, s] (Sl.at_ _ 0 2) trivial (by simp)) ?_; rw [hr.1, hr.2]) | refine call_val (put _ _) ?_ | (have p1 := putS_le (x := b) (w := 2); have p2 := putS_le (x := s) (w := 2); have p3 := putS_le (x := m) (w := 8); refine need (by rw [show IntKind.i64.max = 9223372036854775807 from rfl]; simp only [ByteArray.size_append, size4, str_size, headL_length]; omega) ?_; refine sv (fun z hz => ?_); subst hz) | (have p1 := putS_le (x := b) (w := 2); have p2 := putS_le (x := s) (w := 2); have p3 := putS_le (x := m) (w := 8); have hp := head_pad ‹Right b s m›; refine call_val (pad _ 32 (by simp only [ByteArray.size_append, size4]; omega)) ?_; rw [hp.1, hp.2]) | refine ld1_lit ?_ | refine ldN_lit ?_ | refine nw (fun n => ?_) | refine bld ?_ | (refine ifs (fun h => ?_) (fun h => ?_) <;> try (exfalso; first | omega | with_reducible first | contradiction | exact h rfl)) | refine fin_nil ⟨?_, rfl⟩)
 all_goals first
  | exact super_ok ‹Right b s m› (by omega)
  | exact super_no (fun hc => ‹¬ Right b s m› hc.1)
  | exact super_no (by omega)
  | skip
theorem super_iff {s : ByteArray} (h : s.size = 64) : readOk s ↔ superE (gB s) (gS s) (gM s) (s.extract 32 64) = 0 ∧ superS (gB s) (gS s) (gM s) (s.extract 32 64) = s := by
 unfold readOk superE superS
 have hz : (s.extract 32 64).size = 32 := by rw [ByteArray.size_extract]; omega
 by_cases hr : Right (gB s) (gS s) (gM s)
 · rw [if_pos ⟨hr, hz⟩, if_pos ⟨hr, hz⟩]; simp [h, hr]
 · rw [if_neg (fun hc => hr hc.1), if_neg (fun hc => hr hc.1)]; simp [hr]
theorem read_no {s : ByteArray} (h : ¬ readOk s) : Ending.returned (oneOrMany [.agg #[.int .i64 0, .int .i64 0, .int .i64 0], .string { data := #[] }, .int .i64 6]) =
 .returned (if readOk s then .tuple #[.agg #[.int .i64 (gB s), .int .i64 (gS s), .int .i64 (gM s)], .string (s.extract 32 64), .int .i64 0] else .tuple #[.agg #[.int .i64 0, .int .i64 0, .int .i64 0], .string { data := #[] }, .int .i64 6]) := by rw [if_neg h]; rfl
theorem read_ok {s : ByteArray} (h : readOk s) : Ending.returned (oneOrMany [.agg #[.int .i64 (gB s), .int .i64 (gS s), .int .i64 (gM s)], .string (s.extract 32 64), .int .i64 0]) =
 .returned (if readOk s then .tuple #[.agg #[.int .i64 (gB s), .int .i64 (gS s), .int .i64 (gM s)], .string (s.extract 32 64), .int .i64 0] else .tuple #[.agg #[.int .i64 0, .int .i64 0, .int .i64 0], .string { data := #[] }, .int .i64 6]) := by rw [if_pos h]; rfl
attribute [local irreducible] superS superE gB gS gM nuN nuE nuA
theorem gread (s : ByteArray) (hs : s.size ≤ 140737488351232) : Fnc Tryz.prog 194 [.string s] []
 (Ret (if readOk s then .tuple #[.agg #[.int .i64 (gB s), .int .i64 (gS s), .int .i64 (gM s)], .string (s.extract 32 64), .int .i64 0] else .tuple #[.agg #[.int .i64 0, .int .i64 0, .int .i64 0], .string { data := #[] }, .int .i64 6]) []) := by
 refine fn_intro Tryz.func194 (by kernel_rfl) ?_
 repeat' ((conv => whnf); first
  | (refine sv (fun z hz => ?_); (first | (rw [show (s.size : Int).toNat = 64 by omega] at hz; first | (change z = s.extract 4 64 at hz) | (change z = s.extract 32 64 at hz)) | skip); subst hz) | (refine call_fn (read _) .nil (fun e A' hq => ?_); obtain ⟨r, h1, h2⟩ := hq; subst h1; subst h2; have h64 : s.size = 64 := (by omega); obtain ⟨u1, u2, u3, u4, u5⟩ := read_nums h64; have h60 : (s.extract 4 64).size = 60 := by rw [ByteArray.size_extract]; omega) | (refine call_ret (num _ _ 0 2 (by omega) (by omega) (by omega)) (.cons (.there .here) .nil) ?_; rw [u1, u2]) | (refine call_ret (num _ _ 2 2 (by omega) (by omega) (by omega)) (.cons .here .nil) ?_; rw [u3, u4]) | (refine call_ret (num _ _ 4 8 (by omega) (by omega) (by omega)) (.cons .here .nil) ?_; rw [u5]) | refine ldN_lit ?_ | refine nw (fun n => ?_) | refine bld ?_ | refine st_lit rfl ?_ | refine need (by first | rfl | omega) ?_ | (refine ifs (fun h => ?_) (fun h => ?_) <;> try (exfalso; first | omega | with_reducible first | contradiction | exact h rfl)) | refine fin_nil ⟨?_, rfl⟩)
 refine draw_quiet rfl (by kernel_rfl) ?_
 repeat' ((conv => whnf); first
  | (refine sv (fun z hz => ?_); (first | (rw [show (s.size : Int).toNat = 64 by omega] at hz; first | (change z = s.extract 4 64 at hz) | (change z = s.extract 32 64 at hz)) | skip); subst hz) | refine draw_any 12 [(1, true), (2, true), (0, false), (3, false), (4, true), (5, true)] [] rfl (by kernel_rfl) ?_ | refine kept_nil ?_ | refine qcall_val (super _ _ _ _ (by rw [ByteArray.size_extract]; omega)) ?_ | refine qldN_lit ?_ | refine ldN_lit ?_ | refine bld ?_ | refine st_lit rfl ?_ | refine need (by first | rfl | omega) ?_ | (refine ifs (fun h => ?_) (fun h => ?_) <;> try (exfalso; first | omega | with_reducible first | contradiction | exact h rfl)) | refine fin_nil ⟨?_, rfl⟩)
 all_goals (conv => whnf)
 all_goals first
  | exact read_no (fun hc => by have := hc.1; omega)
  | exact read_no (fun hc => ‹¬ s.extract _ _ = _› (read_iff.1 hc).2.1)
  | exact read_no (fun hc => ‹¬ _› ((super_iff h64).1 hc).1)
  | exact read_no (fun hc => ‹¬ superS _ _ _ _ = _› ((super_iff h64).1 hc).2)
  | exact read_ok ((super_iff h64).2 ⟨‹_›, ‹_›⟩)
  | skip
end Geom
namespace Reg
open Go Ev Be Geom
theorem within (a hi : Int) : Fnc Tryz.prog 116 [.int .i64 a, .int .i64 hi] [] (Ret (.bool (decide (0 ≤ a ∧ a ≤ hi))) []) := by
 refine fn_intro Tryz.func116 (by kernel_rfl) ?_
 repeat' ((conv => whnf); first
  | (refine ifs (fun h => ?_) (fun h => ?_) <;> try (exfalso; first | omega | with_reducible first | contradiction | exact h rfl)) | refine fin_nil ⟨?_, rfl⟩)
 all_goals exact fin_bool (by simp; omega)
theorem kDg : kindsOf Tryz.prog 3 30 = some (List.replicate 32 (.int .u8)) := by kernel_rfl
theorem fDg (a : Dg) : Fits (List.replicate 32 (.int .u8)) (dV a) := by
 repeat' first | exact trivial | (refine ⟨⟨_, rfl⟩, ?_⟩)
theorem fZ : Fits (List.replicate 32 (.int .u8)) zV := by
 repeat' first | exact trivial | (refine ⟨⟨_, rfl⟩, ?_⟩)
open Classical in
noncomputable def ckE (b : Dg) (e iv a0 a1 u0 u1 d m : Int) (t : Bool) : Int := if RR b e iv a0 a1 u0 u1 d m t then 0 else 2
theorem ck_0 {b : Dg} {e iv a0 a1 u0 u1 d m : Int} {t : Bool} (h : RR b e iv a0 a1 u0 u1 d m t) : ckE b e iv a0 a1 u0 u1 d m t = 0 := if_pos h
theorem ck_2 {b : Dg} {e iv a0 a1 u0 u1 d m : Int} {t : Bool} (h : ¬ RR b e iv a0 a1 u0 u1 d m t) : ckE b e iv a0 a1 u0 u1 d m t = 2 := if_neg h
theorem check (a b : Dg) (e iv a0 a1 u0 u1 d m : Int) (t : Bool) : Fnc Tryz.prog 60 [.agg (regL a b e iv a0 a1 u0 u1 d m t).toArray] [] (Ret (.int .i64 (ckE b e iv a0 a1 u0 u1 d m t)) []) := by
 cases t
 all_goals refine fn_intro Tryz.func60 (by kernel_rfl) ?_
 all_goals repeat' ((conv => whnf); first
  | refine call_bool (within _ _) (fun h => ?_) (fun h => ?_) | refine loop_n 3 ?_ | refine agg_eql kDg (by decide) rfl rfl rfl rfl (by kernel_rfl) (fDg _) fZ ?_ | (refine nv (fun z hz => ?_); subst hz) | refine ld1_lit ?_ | refine ldN_lit ?_ | refine nw (fun n => ?_) | refine bld ?_ | refine need (by first | rfl | omega) ?_ | (refine wr (fun z hz => ?_); (try rw [Int.tdiv_eq_ediv_of_nonneg (by omega)] at hz); rw [w64 (by omega) (by omega)] at hz; subst hz) | (refine ifs (fun h => ?_) (fun h => ?_) <;> try (exfalso; first | omega | with_reducible first | contradiction | exact h rfl)) | refine fin_nil ⟨?_, rfl⟩)
 all_goals first
  | exact ret_int (ck_0 ⟨by omega, by omega, by omega, by omega, by omega, by omega, by omega, by omega, by omega, by omega, by omega, by omega, by omega, by omega, by omega, by omega, fun _ => by omega, fun _ => by omega, fun _ => by omega, fun _ => ‹_›, by omega⟩).symm
  | (refine ret_int (ck_2 fun h => ?_).symm; have h1 := h.e0; have h2 := h.e1; have h3 := h.i0; have h4 := h.i1; have h5 := h.d0; have h6 := h.d1; have h7 := h.m0; have h8 := h.m1; have h9 := h.a00; have h10 := h.a01; have h11 := h.a10; have h12 := h.a11; have h13 := h.u00; have h14 := h.u01; have h15 := h.u10; have h16 := h.u11; have h17 := h.md; omega) | (refine ret_int (ck_2 fun h => ?_).symm; have h1 := h.at1 rfl; have h2 := h.at2 rfl; have h3 := h.at3 rfl; omega) | (refine ret_int (ck_2 fun h => ?_).symm; have h1 := h.at4 rfl; contradiction) | (refine ret_int (ck_0 ?_).symm; refine ⟨?_, ?_, ?_, ?_, ?_, ?_, ?_, ?_, ?_, ?_, ?_, ?_, ?_, ?_, ?_, ?_, ?_, ?_, ?_, ?_, ?_⟩ <;> first | omega | (intro hf; exact absurd hf (by decide))) | skip
end Reg
namespace Reg
open Go Ev Be Geom
section
variable {a b : Dg} {e iv a0 a1 u0 u1 d m : Int} {t : Bool}
theorem check_t (a : Dg) (h : RR b e iv a0 a1 u0 u1 d m t) : Fnc Tryz.prog 60 [.agg (regL a b e iv a0 a1 u0 u1 d m t).toArray] [] (Ret (.int .i64 0) []) := by have := check a b e iv a0 a1 u0 u1 d m t; rwa [ck_0 h] at this
theorem check_f (a : Dg) (h : ¬ RR b e iv a0 a1 u0 u1 d m t) : Fnc Tryz.prog 60 [.agg (regL a b e iv a0 a1 u0 u1 d m t).toArray] [] (Ret (.int .i64 2) []) := by have := check a b e iv a0 a1 u0 u1 d m t; rwa [ck_2 h] at this
theorem put_f (a : Dg) (h : ¬ RR b e iv a0 a1 u0 u1 d m t) : Fnc Tryz.prog 163 [.agg (regL a b e iv a0 a1 u0 u1 d m t).toArray] [] (Ret (.tuple #[.string { data := #[] }, .int .i64 2]) []) := by
 refine fn_intro Tryz.func163 (by kernel_rfl) ?_
 repeat' ((conv => whnf); first
  | refine call_val (check_f a h) ?_ | refine ldN_lit ?_ | refine nw (fun n => ?_) | (refine ifs (fun h => ?_) (fun h => ?_) <;> try (exfalso; first | omega | with_reducible first | contradiction | exact h rfl)) | refine fin_nil ⟨?_, rfl⟩)
 all_goals rfl
attribute [local irreducible] rowE rowS padE padS putE putS layL
theorem puts_size (n w : Int) : (putS n w).size ≤ 8 := putS_le
theorem put_t (a : Dg) (h : RR b e iv a0 a1 u0 u1 d m t) : Fnc Tryz.prog 163 [.agg (regL a b e iv a0 a1 u0 u1 d m t).toArray] [] (Ret (.tuple #[.string (str (layL a b e iv a0 a1 u0 u1 d m t)), .int .i64 0]) []) := by
 have hl : (dl a).length = 32 := by simp [dl]
 have hl' : (dl b).length = 32 := by simp [dl]
 refine fn_intro Tryz.func163 (by kernel_rfl) ?_
 have hr := row_reg h
 have hp := pad_reg (a := a) h
 cases t
 all_goals simp only [atI, Bool.false_eq_true, if_false, if_true] at hr hp
 all_goals repeat' ((conv => whnf); first
  | refine call_val (check_t a ‹_›) ?_ | refine call_val (put _ _) ?_ | (refine call_lit (row 1 [a0, u0, a1, u1, d, m, 0, 103] (Sl.at_ _ 0 8) trivial (by simp)) ?_; rw [hr.1, hr.2]) | (refine call_lit (row 1 [a0, u0, a1, u1, d, m, 1, 103] (Sl.at_ _ 0 8) trivial (by simp)) ?_; rw [hr.1, hr.2]) | (refine nv (fun z hz => ?_); subst hz) | refine draw_quiet rfl (by kernel_rfl) ?_ | refine qb2s_at (dl a) rfl rfl rfl rfl rfl ?_ | refine qb2s_at (dl b) rfl rfl rfl rfl rfl ?_ | (have p1 := puts_size e 4; have p2 := puts_size iv 8; refine need (by rw [show IntKind.i64.max = 9223372036854775807 from rfl]; simp only [ByteArray.size_append, Ev.str_size, List.length_cons, List.length_nil, hl, hl']; omega) ?_; refine sv (fun z hz => ?_); subst hz) | (have p1 := puts_size e 4; have p2 := puts_size iv 8; refine qcall_val (pad _ 96 (by simp only [ByteArray.size_append, Ev.str_size, List.length_cons, List.length_nil, hl, hl']; omega)) ?_; rw [hp.1, hp.2]) | refine ld1_lit ?_ | refine ldN_lit ?_ | refine nw (fun n => ?_) | refine bld ?_ | refine need (by first | rfl | omega) ?_ | (refine ifs (fun h => ?_) (fun h => ?_) <;> try (exfalso; first | omega | with_reducible first | contradiction | exact h rfl)) | refine fin_nil ⟨?_, rfl⟩)
 all_goals rfl
end
end Reg
namespace Sto
open Go Ev Sha Aes Orc Node Rec Chn Jrn Cau
open Rig (RigP Rg rgM readR writeR flushR setRegR z64 app_of tick comes write_ mayE RigA)
structure RgV where
 a0 : Dg
 a1 : Dg
 ep : Int
 iv : Int
 ar0 : Int
 ar1 : Int
 u0 : Int
 u1 : Int
 dirty : Int
 mode : Int
 at_ : Bool
def regC (x : RgV) : List Value := dgV x.a0 ++ (dgV x.a1 ++ [.int .i64 x.ep, .int .i64 x.iv, .int .i64 x.ar0, .int .i64 x.ar1, .int .i64 x.u0, .int .i64 x.u1, .int .i64 x.dirty, .int .i64 x.mode, .bool x.at_])
def RgV.set (x : RgV) (d : Nat) (a : Dg) (ar u : Int) : RgV := if d = 0 then { x with a0 := a, ar0 := ar, u0 := u } else { x with a1 := a, ar1 := ar, u1 := u }
theorem regC_len (x : RgV) : (regC x).length = 73 := by unfold regC; simp [dgV_len]
theorem regC_L (x : RgV) : regC x = Reg.regL x.a0 x.a1 x.ep x.iv x.ar0 x.ar1 x.u0 x.u1 x.dirty x.mode x.at_ := rfl
theorem regC_one (x : RgV) : ∀ u ∈ regC x, u.oneCell' = true := by
 intro u hu
 unfold regC at hu
 rcases List.mem_append.1 hu with hu | hu
 · exact dgV_one _ u hu
 · rcases List.mem_append.1 hu with hu | hu
   · exact dgV_one _ u hu
   · simp at hu
     rcases hu with rfl | rfl | rfl | rfl | rfl | rfl | rfl | rfl | rfl <;> rfl
structure StP where
 rn : Nat
 on : Nat
 g0 : Int
 g1 : Int
 g2 : Int
 super : ByteArray
 j0 : Option Addr
 t0 : Option Addr
 j1 : Option Addr
 t1 : Option Addr
 is : RgV
 next : RgV
 failed : Int
def stC (x : StP) : List Value := [pt x.rn, pt x.on, .int .i64 x.g0, .int .i64 x.g1, .int .i64 x.g2, .string x.super, .pointer x.j0, .pointer x.t0, .pointer x.j1, .pointer x.t1] ++ (regC x.is ++ (regC x.next ++ [.int .i64 x.failed]))
abbrev stB (n : Nat) (x : StP) : Blk := ⟨n, .row (stC x) 114⟩
abbrev rgB (n : Nat) (x : RgV) : Blk := ⟨n, .row (regC x) 34⟩
theorem stC_len (x : StP) : (stC x).length = 157 := by unfold stC; simp [regC_len]
section
variable {x : StP} {y : RgV}
theorem stC_0 : (stC x)[0]? = some (pt x.rn) := rfl
theorem stC_1 : (stC x)[1]? = some (pt x.on) := rfl
theorem stC_5 : (stC x)[5]? = some (.string x.super) := rfl
theorem stC_6 : (stC x)[6]? = some (.pointer x.j0) := rfl
theorem stC_7 : (stC x)[7]? = some (.pointer x.t0) := rfl
theorem stC_8 : (stC x)[8]? = some (.pointer x.j1) := rfl
theorem stC_9 : (stC x)[9]? = some (.pointer x.t1) := rfl
theorem stC_g : ((stC x).drop 2).take 3 = [.int .i64 x.g0, .int .i64 x.g1, .int .i64 x.g2] := rfl
theorem stC_at : (stC x)[82]? = some (.bool x.is.at_) := rfl
theorem stC_iv : (stC x)[75]? = some (.int .i64 x.is.iv) := rfl
theorem stC_f : (stC x)[156]? = some (.int .i64 x.failed) := rfl
theorem stC_is : ((stC x).drop 10).take (regC x.is).length = regC x.is := rfl
theorem stC_nx : ((stC x).drop 83).take (regC x.next).length = regC x.next := rfl
theorem stC_s6 {v : Option Addr} : (stC x).set 6 (.pointer v) = stC { x with j0 := v } := rfl
theorem stC_s7 {v : Option Addr} : (stC x).set 7 (.pointer v) = stC { x with t0 := v } := rfl
theorem stC_s8 {v : Option Addr} : (stC x).set 8 (.pointer v) = stC { x with j1 := v } := rfl
theorem stC_s9 {v : Option Addr} : (stC x).set 9 (.pointer v) = stC { x with t1 := v } := rfl
theorem stC_sn {v : Int} : (stC x).set 148 (.int .i64 v) = stC { x with next := { x.next with iv := v } } := rfl
theorem stC_sf {v : Int} : (stC x).set 156 (.int .i64 v) = stC { x with failed := v } := rfl
theorem stC_sis : (stC x).take 10 ++ regC y ++ (stC x).drop (10 + (regC y).length) = stC { x with is := y } := rfl
theorem stC_snx : (stC x).take 83 ++ regC y ++ (stC x).drop (83 + (regC y).length) = stC { x with next := y } := rfl
theorem regC_s0 {b : Dg} : (regC y).take 0 ++ dgV b ++ (regC y).drop (0 + (dgV b).length) = regC { y with a0 := b } := rfl
theorem regC_s1 {b : Dg} : (regC y).take 32 ++ dgV b ++ (regC y).drop (32 + (dgV b).length) = regC { y with a1 := b } := rfl
theorem regC_s66 {v : Int} : (regC y).set 66 (.int .i64 v) = regC { y with ar0 := v } := rfl
theorem regC_s67 {v : Int} : (regC y).set 67 (.int .i64 v) = regC { y with ar1 := v } := rfl
theorem regC_s68 {v : Int} : (regC y).set 68 (.int .i64 v) = regC { y with u0 := v } := rfl
theorem regC_s69 {v : Int} : (regC y).set 69 (.int .i64 v) = regC { y with u1 := v } := rfl
theorem regC_si {v : Int} : (regC y).set 65 (.int .i64 v) = regC { y with iv := v } := rfl
end
section
variable {P : Program} {M : List Blk} {n : Nat} {x : StP} {T : TypeId} {f : Blk → List Blk} {k : List Blk → Prop} [z : Zip M n (.row (stC x) T) f]
theorem st_6 {v : Option Addr} (hk : k (f ⟨n, .row (stC { x with j0 := v }) T⟩)) : StN P M n 6 [.pointer v] k := st_row rfl (by rw [stC_len]; omega) (by rw [stC_s6]; exact hk)
theorem st_7 {v : Option Addr} (hk : k (f ⟨n, .row (stC { x with t0 := v }) T⟩)) : StN P M n 7 [.pointer v] k := st_row rfl (by rw [stC_len]; omega) (by rw [stC_s7]; exact hk)
theorem st_8 {v : Option Addr} (hk : k (f ⟨n, .row (stC { x with j1 := v }) T⟩)) : StN P M n 8 [.pointer v] k := st_row rfl (by rw [stC_len]; omega) (by rw [stC_s8]; exact hk)
theorem st_9 {v : Option Addr} (hk : k (f ⟨n, .row (stC { x with t1 := v }) T⟩)) : StN P M n 9 [.pointer v] k := st_row rfl (by rw [stC_len]; omega) (by rw [stC_s9]; exact hk)
theorem st_f {v : Int} (hk : k (f ⟨n, .row (stC { x with failed := v }) T⟩)) : StN P M n 156 [.int .i64 v] k := st_row rfl (by rw [stC_len]; omega) (by rw [stC_sf]; exact hk)
theorem st_ni {v : Int} (hk : k (f ⟨n, .row (stC { x with next := { x.next with iv := v } }) T⟩)) : StN P M n 148 [.int .i64 v] k := st_row rfl (by rw [stC_len]; omega) (by rw [stC_sn]; exact hk)
theorem st_is {y : RgV} (hk : k (f ⟨n, .row (stC { x with is := y }) T⟩)) : StN P M n 10 (regC y) k := st_rowN (regC_one y) (by rw [stC_len, regC_len]; omega) (by rw [stC_sis]; exact hk)
theorem st_nx {y : RgV} (hk : k (f ⟨n, .row (stC { x with next := y }) T⟩)) : StN P M n 83 (regC y) k := st_rowN (regC_one y) (by rw [stC_len, regC_len]; omega) (by rw [stC_snx]; exact hk)
end
section
variable {P : Program} {M : List Blk} {n : Nat} {y : RgV} {T : TypeId} {f : Blk → List Blk} {k : List Blk → Prop} [z : Zip M n (.row (regC y) T) f]
theorem st_ra0 {b : Dg} (hk : k (f ⟨n, .row (regC { y with a0 := b }) T⟩)) : StN P M n 0 (dgV b) k := st_rowN (dgV_one b) (by rw [regC_len, dgV_len]; omega) (by rw [regC_s0]; exact hk)
theorem st_ra1 {b : Dg} (hk : k (f ⟨n, .row (regC { y with a1 := b }) T⟩)) : StN P M n 32 (dgV b) k := st_rowN (dgV_one b) (by rw [regC_len, dgV_len]; omega) (by rw [regC_s1]; exact hk)
theorem st_r66 {v : Int} (hk : k (f ⟨n, .row (regC { y with ar0 := v }) T⟩)) : StN P M n 66 [.int .i64 v] k := st_row rfl (by rw [regC_len]; omega) (by rw [regC_s66]; exact hk)
theorem st_r67 {v : Int} (hk : k (f ⟨n, .row (regC { y with ar1 := v }) T⟩)) : StN P M n 67 [.int .i64 v] k := st_row rfl (by rw [regC_len]; omega) (by rw [regC_s67]; exact hk)
theorem st_r68 {v : Int} (hk : k (f ⟨n, .row (regC { y with u0 := v }) T⟩)) : StN P M n 68 [.int .i64 v] k := st_row rfl (by rw [regC_len]; omega) (by rw [regC_s68]; exact hk)
theorem st_r69 {v : Int} (hk : k (f ⟨n, .row (regC { y with u1 := v }) T⟩)) : StN P M n 69 [.int .i64 v] k := st_row rfl (by rw [regC_len]; omega) (by rw [regC_s69]; exact hk)
theorem st_riv {v : Int} (hk : k (f ⟨n, .row (regC { y with iv := v }) T⟩)) : StN P M n 65 [.int .i64 v] k := st_row rfl (by rw [regC_len]; omega) (by rw [regC_si]; exact hk)
end
attribute [local irreducible] dgV D jC wrF rcC stC regC
theorem must_ok : Fnc Tryz.prog 59 [.int .i64 0] [] (Ret (.tuple #[]) []) := by
 refine fn_intro Tryz.func59 (by kernel_rfl) ?_
 repeat' ((conv => whnf); first
  | (refine ifs (fun h => ?_) (fun h => ?_) <;> try (exfalso; first | omega | with_reducible first | contradiction | exact h rfl)))
 all_goals (conv => whnf)
 all_goals exact fin_nil ⟨rfl, rfl⟩
theorem must_no (c : Int) (hc : c ≠ 0) : Fnc Tryz.prog 59 [.int .i64 c] [] (fun e A => e = .panicked (pe c) ∧ A = []) := by
 refine fn_intro Tryz.func59 (by kernel_rfl) ?_
 repeat' ((conv => whnf); first
  | (refine ifs (fun h => ?_) (fun h => ?_) <;> try (exfalso; first | omega | with_reducible first | contradiction | exact h rfl)))
 all_goals (conv => whnf)
 all_goals exact fin_nil ⟨rfl, rfl⟩
theorem devices_ (sn : Nat) (x : StP) (h : x.is.at_ = true) : Fnc Tryz.prog 93 [pt sn] [stB sn x] (fun e A => ∃ n, e = .returned (.slice (some ⟨n, 0, none⟩) 2 2) ∧ A = [stB sn x, ⟨n, .cells [.int .i64 0, .int .i64 1] 3⟩]) := by
 have hat := stC_at (x := x)
 rw [h] at hat
 refine fn_intro Tryz.func93 (by kernel_rfl) ?_
 repeat' ((conv => whnf); first
  | refine ld1_row hat ?_ | refine nw (fun n => ?_) | refine bld ?_)
 all_goals (conv => whnf)
 all_goals exact fin_pick (A' := [stB sn x, ⟨n, _⟩]) (.cons takeC (.cons takeC .nil)) ⟨n, rfl, rfl⟩
def flF (r : RigP) (d : Int) : RigP := (ticked r).setDev d (Rig.flushD ((ticked r).dev d))
def srF (r : RigP) (s : ByteArray) : RigP := { ticked r with reg := s }
theorem fine_fl {r : RigP} (h : Fine r) (d : Int) : Fine (flF r d) := (h.ticked).setDev _ _
theorem fine_sr {r : RigP} (h : Fine r) (s : ByteArray) : Fine (srF r s) := ⟨h.down, h.arm, h.fault, h.later⟩
theorem flushF (x : Rg) (d : Int) (h : Fine x.r) (hd : d = 0 ∨ d = 1) : Fnc Tryz.prog 162 [pt x.a.rn, .int .i64 d] (rgM x) (Ret (.int .i64 0) (rgM ⟨x.a, flF x.r d⟩)) := by
 have := Rig.flush_ x d
 rw [show flushR x.r d = (flF x.r d, 0) by unfold flushR; rw [mayE_ok hd (by omega) (by omega), if_neg (by simp), h.tick]; rfl] at this
 exact this
theorem setregF (x : Rg) (s : ByteArray) (h : Fine x.r) (hs : s.size = 96) : Fnc Tryz.prog 164 [pt x.a.rn, .string s] (rgM x) (Ret (.int .i64 0) (rgM ⟨x.a, srF x.r s⟩)) := by
 have := Rig.setreg_ x s
 rw [show setRegR x.r s = (srF x.r s, 0) by unfold setRegR; rw [if_neg (by simp [hs]), h.tick]; rfl] at this
 exact this
attribute [local irreducible] flF srF
def RgV.ok (x : RgV) : Prop := Reg.RR x.a1 x.ep x.iv x.ar0 x.ar1 x.u0 x.u1 x.dirty x.mode x.at_
def RgV.lay (x : RgV) : ByteArray := str (Reg.layL x.a0 x.a1 x.ep x.iv x.ar0 x.ar1 x.u0 x.u1 x.dirty x.mode x.at_)
theorem lay_size (x : RgV) : x.lay.size = 96 := by unfold RgV.lay; rw [Ev.str_size, Reg.layL_length]
theorem rput (x : RgV) (h : x.ok) : Fnc Tryz.prog 163 [.agg (regC x).toArray] [] (Ret (.tuple #[.string x.lay, .int .i64 0]) []) := by
 rw [regC_L]; exact Reg.put_t x.a0 h
attribute [local irreducible] RgV.lay
theorem set_ (g : Rg) (sn : Nat) (x : StP) (y : RgV) (hf : Fine g.r) (hrn : x.rn = g.a.rn) (hy : y.ok) :
 Fnc Tryz.prog 96 [pt sn, .agg (regC y).toArray] (rgM g ++ [stB sn x]) (Ret (.tuple #[]) (rgM ⟨g.a, srF g.r y.lay⟩ ++ [stB sn { x with is := y }])) := by
 have hp := rput y hy
 have hs := setregF g y.lay hf (lay_size y)
 rw [← hrn] at hs
 refine fn_intro Tryz.func96 (by kernel_rfl) ?_
 repeat' ((conv => whnf); first
  | refine force_of ?_ | refine nw_row (cs' := regC y) rfl (fun n => ?_) | refine ldN_whole (regC_len _) ?_ | refine call_val hp ?_ | refine call_val must_ok ?_ | refine ld1_row (n := sn) stC_0 ?_ | refine call_gr hs (.one takeG) ?_ | (refine need ?_ ?_; exact regC_len _) | refine st_is ?_)
 all_goals (conv => whnf)
 all_goals exact fin_g (A := rgM _ ++ [stB sn _]) (.grp takeG (.blk takeC .nil)) ⟨rfl, rfl⟩
abbrev two (n : Nat) : Blk := ⟨n, .cells [.int .i64 0, .int .i64 1] 3⟩
theorem flush2 (g : Rg) (sn ln : Nat) (x : StP) (hf : Fine g.r) (hrn : x.rn = g.a.rn) :
 Fnc Tryz.prog 95 [pt sn, .slice (some ⟨ln, 0, none⟩) 2 2] (rgM g ++ [stB sn x, two ln]) (Ret (.tuple #[]) (rgM ⟨g.a, flF (flF g.r 0) 1⟩ ++ [stB sn x, two ln])) := by
 have h0 := flushF g 0 hf (.inl rfl)
 have h1 := flushF ⟨g.a, flF g.r 0⟩ 1 (fine_fl hf 0) (.inr rfl)
 rw [← hrn] at h0
 rw [show (⟨g.a, flF g.r 0⟩ : Rg).a.rn = x.rn from hrn.symm] at h1
 refine fn_intro Tryz.func95 (by kernel_rfl) ?_
 repeat' ((conv => whnf); first
  | refine loop_n 3 ?_ | refine ld1_row (n := sn) stC_0 ?_ | refine nv_eq (a := 0) rfl ?_ | refine nv_eq (a := 1) rfl ?_ | refine call_val must_ok ?_ | refine call_gr h0 (.one takeG) ?_ | refine call_gr h1 (.one takeG) ?_ | refine ld1_lit ?_ | refine need (by first | rfl | omega) ?_ | (refine wr (fun z hz => ?_); (try rw [Int.tdiv_eq_ediv_of_nonneg (by omega)] at hz); rw [w64 (by omega) (by omega)] at hz; subst hz) | (refine ifs (fun h => ?_) (fun h => ?_) <;> try (exfalso; first | omega | with_reducible first | contradiction | exact h rfl)))
 all_goals (conv => whnf)
 all_goals exact fin_g (A := rgM _ ++ [stB sn _, two ln]) (.grp takeG (.blk takeC (.blk takeC .nil))) ⟨rfl, rfl⟩
def StP.setJ (x : StP) (d : Nat) (v : Option Addr) : StP := if d = 0 then { x with j0 := v } else { x with j1 := v }
def StP.setT (x : StP) (d : Nat) (v : Option Addr) : StP := if d = 0 then { x with t0 := v } else { x with t1 := v }
theorem plant_ (sn : Nat) (x : StP) (d : Nat) (root : Dg) (hd : d ≤ 1) :
 Fnc Tryz.prog 147 [pt sn, .int .i64 d, .agg (dgV root).toArray] [stB sn x]
  (fun e A => ∃ (tn : Nat) (a : Tree.TreA), a.rn = x.rn ∧ a.on = x.on ∧ e = .returned (.tuple #[]) ∧ A = Tree.treM tn ⟨a, ⟨d, root, [], []⟩⟩ ++ [stB sn (x.setT d (some ⟨tn, 0, none⟩))]) := by
 have ht := Tree.tnew x.rn x.on d root (by omega)
 have hdd : d = 0 ∨ d = 1 := by omega
 rcases hdd with rfl | rfl
 all_goals
  refine fn_intro Tryz.func147 (by kernel_rfl) ?_
  repeat' ((conv => whnf); first
   | refine force_of ?_ | refine nw_dg (fun n => ?_) | refine draw_any 1 [(0, true), (1, true), (2, true), (4, true), (5, true), (6, true), (8, true), (3, true), (7, true), (9, false), (10, false), (11, true), (12, true), (13, true), (14, true), (15, true)] [⟨sn, _⟩] rfl (by kernel_rfl) (kept_of (.cons takeC .nil) ?_) | refine kept_of (.cons takeC .nil) ?_ | refine fld1_row (n := sn) stC_0 ?_ | refine fld1_row (n := sn) stC_1 ?_ | refine ldN_dg rfl ?_ | (refine call_g ht .nil (fun e A' hq => ?_); obtain ⟨tn, a, h1, h2, h3, h4⟩ := hq; subst h3; subst h4) | refine call_val must_ok ?_ | refine nv_eq (a := 6) rfl ?_ | refine nv_eq (a := 8) rfl ?_ | refine st_7 ?_ | refine st_9 ?_ | refine need (by first | rfl | omega) ?_)
  all_goals (conv => whnf)
  all_goals exact fin_g (A := Tree.treM tn _ ++ [stB sn _]) (.grp takeG (.blk takeC .nil)) ⟨tn, a, h1, h2, rfl, rfl⟩
theorem begin_ (g : Rg) (o : Orc) (sn xn : Nat) (x : StP) (y : RgV) (d area : Nat) (seq : Int) (root : Dg) (hf : Fine g.r) (hrn : x.rn = g.a.rn) (hon : x.on = o.on) (hd : d ≤ 1) (ha : area ≤ 1) (hs : x.super.size = 64) (hq : seqOk seq) (hb : o.ts.length ≤ 1099511627000) :
 Fnc Tryz.prog 161 [pt sn, pt xn, .int .i64 d, .int .i64 area, .agg (rcC seq root).toArray] (rgM g ++ (orcM o ++ [stB sn x, rgB xn y]))
  (fun e A => ∃ (jn : Nat) (o' : Orc), o'.on = o.on ∧ o'.ts = addT (addT o.ts (startS x.super d area)) (nextS (D (startS x.super d area)) (recB seq root)) ∧ e = .returned (.tuple #[]) ∧
    A = rgM ⟨g.a, wrF g.r d (1 + 80 * area) (recB seq root)⟩ ++ (orcM o' ++ [jB jn g.a.rn o.on (addJ (jr0 x.super d area (D (startS x.super d area))) seq root (recB seq root)), stB sn (x.setJ d (some ⟨jn, 0, none⟩)), rgB xn (y.set d (D (nextS (D (startS x.super d area)) (recB seq root))) area 1)])) := by
 have hj := jbegin g o x.super d area seq root hf hd ha hs hq hb
 rw [← hrn, ← hon] at hj
 have hdd : d = 0 ∨ d = 1 := by omega
 obtain ⟨jx, ejx⟩ : ∃ jx, jx = addJ (jr0 x.super d area (D (startS x.super d area))) seq root (recB seq root) := ⟨_, rfl⟩
 have ex : jx.anchor = D (nextS (D (startS x.super d area)) (recB seq root)) := by rw [ejx]; rfl
 have eu : jx.used = 1 := by rw [ejx]; rfl
 rw [← ejx] at hj ⊢
 rw [← ex]
 have h1 := fun jn => janchor jn x.rn x.on jx
 have h2 := fun jn => jused jn x.rn x.on jx
 rw [eu] at h2
 rw [← hrn, ← hon]
 rcases hdd with rfl | rfl
 all_goals
  refine fn_intro Tryz.func161 (by kernel_rfl) ?_
  repeat' ((conv => whnf); first
   | refine force_of ?_ | refine nw_row (cs' := rcC seq root) rfl (fun n => ?_) | refine draw_any 1 [(0, true), (1, true), (2, true), (4, true), (5, true), (6, true), (8, true), (9, true), (10, true), (12, true), (13, true), (3, true), (7, true), (11, true), (14, true), (15, false), (16, false), (17, true), (18, true), (19, true), (20, true), (21, true)] [⟨sn, _⟩] rfl (by kernel_rfl) (kept_of (.cons takeC .nil) ?_) | refine kept_of (.cons takeC .nil) ?_ | refine fld1_row (n := sn) stC_0 ?_ | refine fld1_row (n := sn) stC_1 ?_ | refine fld1_row (n := sn) stC_5 ?_ | refine ldN_whole (n := n) (rcC_len _ _) ?_ | (refine call_g hj (.grp takeG (.one takeG)) (fun e A' hq => ?_); obtain ⟨jn, o1, a1, a2, a3, a4⟩ := hq; subst a3; subst a4) | refine call_val must_ok ?_ | refine nv_eq (a := 6) rfl ?_ | refine nv_eq (a := 8) rfl ?_ | refine st_6 ?_ | refine st_8 ?_ | refine draw_any 4 [(0, true), (1, true), (2, true), (3, true), (4, true), (5, true), (6, true), (8, true), (9, true), (11, true), (12, true), (15, true), (16, true), (19, true), (20, true), (7, false), (10, false), (13, true), (14, false), (17, true), (18, false), (21, true), (22, false)] [] rfl (by kernel_rfl) ?_ | refine kept_nil ?_ | refine call_gr (h1 jn) (.blk takeC .nil) ?_ | refine call_gr (h2 jn) (.blk takeC .nil) ?_ | refine nv_eq (a := 0) rfl ?_ | refine nv_eq (a := 32) rfl ?_ | refine nv_eq (a := 66) rfl ?_ | refine nv_eq (a := 67) rfl ?_ | refine nv_eq (a := 68) rfl ?_ | refine nv_eq (a := 69) rfl ?_ | (refine need ?_ ?_; exact dgV_len _) | refine st_ra0 ?_ | refine st_ra1 ?_ | refine st_r66 ?_ | refine st_r67 ?_ | refine st_r68 ?_ | refine st_r69 ?_ | refine bld ?_ | refine need (by first | rfl | omega) ?_)
  all_goals (conv => whnf)
  all_goals exact fin_g (A := rgM _ ++ (orcM o1 ++ [jB jn x.rn x.on jx, stB sn _, rgB xn _])) (.grp takeG (.grp takeG (.blk takeC (.blk takeC (.blk takeC .nil))))) ⟨jn, o1, a1, a2, rfl, rfl⟩
end Sto
namespace Sto
open Go Ev Sha Aes Orc Node Rec Chn Jrn Cau
open Rig (RigP Rg rgM readR writeR flushR setRegR z64 app_of tick comes write_ mayE RigA)
theorem st_rgl {P : Program} {M : List Blk} {n : Nat} {y y' : RgV} {vs : List Value} {T : TypeId} {f : Blk → List Blk} {k : List Blk → Prop} [z : Zip M n (.row (regC y) T) f] (hv : vs = regC y') (hk : k (f ⟨n, .row (regC y') T⟩)) : StN P M n 0 vs k := by
 subst hv; exact st_whole (regC_one y') (by rw [regC_len, regC_len]) hk
noncomputable def layN (r : RigP) (d : Nat) : Nat → RigP
 | 0 => r
 | k + 1 => wrF (layN r d k) d (161 + k) (bare (high k)).1
noncomputable def layNT (ts : List ByteArray) : Nat → List ByteArray
 | 0 => ts
 | k + 1 => BareT (layNT ts k) (high k)
noncomputable def layL (r : RigP) (d : Nat) : Nat → RigP
 | 0 => r
 | k + 1 => wrF (layL r d k) d (224 + k) (bare 0).1
noncomputable def layLT (ts : List ByteArray) : Nat → List ByteArray
 | 0 => ts
 | k + 1 => BareT (layLT ts k) 0
noncomputable def layR (r : RigP) (d : Nat) : RigP := layL (layN r d 63) d 64
noncomputable def layT (ts : List ByteArray) : List ByteArray := layLT (layNT ts 63) 64
theorem high_le (n : Nat) : high n ≤ 6 := by unfold high; omega
theorem fine_N {r : RigP} (h : Fine r) (d : Nat) : ∀ k, Fine (layN r d k)
 | 0 => h
 | k + 1 => (fine_N h d k).wrF _ _ _
theorem fine_L {r : RigP} (h : Fine r) (d : Nat) : ∀ k, Fine (layL r d k)
 | 0 => h
 | k + 1 => (fine_L h d k).wrF _ _ _
theorem fine_lay {r : RigP} (h : Fine r) (d : Nat) : Fine (layR r d) := fine_L (fine_N h d 63) d 64
theorem layNT_len (ts : List ByteArray) : ∀ k, (layNT ts k).length ≤ ts.length + 9 * k
 | 0 => by show ts.length ≤ _; omega
 | k + 1 => by
   have := BareT_len (layNT ts k) (high k)
   have ih := layNT_len ts k
   have hh := high_le k
   show (BareT (layNT ts k) (high k)).length ≤ _
   omega
theorem layLT_len (ts : List ByteArray) : ∀ k, (layLT ts k).length ≤ ts.length + 3 * k
 | 0 => by show ts.length ≤ _; omega
 | k + 1 => by
   have := BareT_len (layLT ts k) 0
   have ih := layLT_len ts k
   show (BareT (layLT ts k) 0).length ≤ _
   omega
theorem layT_len (ts : List ByteArray) : (layT ts).length ≤ ts.length + 1000 := by
 unfold layT
 have h1 := layNT_len ts 63
 have h2 := layLT_len (layNT ts 63) 64
 omega
theorem layN_s (r : RigP) (d k : Nat) : layN r d (k + 1) = wrF (layN r d k) d (161 + k) (bare (high k)).1 := rfl
theorem layL_s (r : RigP) (d k : Nat) : layL r d (k + 1) = wrF (layL r d k) d (224 + k) (bare 0).1 := rfl
theorem layNT_s (ts : List ByteArray) (k : Nat) : layNT ts (k + 1) = BareT (layNT ts k) (high k) := rfl
theorem layLT_s (ts : List ByteArray) (k : Nat) : layLT ts (k + 1) = BareT (layLT ts k) 0 := rfl
def rz : List Value := .int .i64 0 :: (List.replicate 32 (.int .u8 0) ++ [.slice none 0 0])
theorem setJ_rn (x : StP) (d : Nat) (v : Option Addr) : (x.setJ d v).rn = x.rn ∧ (x.setJ d v).on = x.on := by unfold StP.setJ; split <;> exact ⟨rfl, rfl⟩
theorem rz_e (b : Dg) : rz.take 1 ++ dgV b ++ rz.drop (1 + 32) = rcC 0 b := rfl
def rg1 : RgV := ⟨zD, zD, 1, 0, 0, 0, 0, 0, 0, 0, true⟩
def rgT : RgV := ⟨zD, zD, 0, 0, 0, 0, 0, 0, 0, 0, true⟩
def rg0 : RgV := ⟨zD, zD, 0, 0, 0, 0, 0, 0, 0, 0, false⟩
theorem rg0_e : regC rg0 = List.replicate 64 (Value.int .u8 0) ++ [.int .i64 0, .int .i64 0, .int .i64 0, .int .i64 0, .int .i64 0, .int .i64 0, .int .i64 0, .int .i64 0, .bool false] := rfl
theorem rg1_e : regC rg1 = List.replicate 64 (Value.int .u8 0) ++ [.int .i64 1, .int .i64 0, .int .i64 0, .int .i64 0, .int .i64 0, .int .i64 0, .int .i64 0, .int .i64 0, .bool true] := rfl
attribute [local irreducible] dgV D jC wrF rcC stC regC flF srF layN layL layNT layLT bare BareT
theorem lay_ (g : Rg) (o : Orc) (sn : Nat) (x : StP) (d : Nat) (hf : Fine g.r) (hrn : x.rn = g.a.rn) (hon : x.on = o.on) (hd : d ≤ 1) (hb : o.ts.length ≤ 1099511620000) :
 Fnc Tryz.prog 159 [pt sn, .int .i64 d] (rgM g ++ (orcM o ++ [stB sn x]))
  (RetO o (layT o.ts) (fun o' => rgM ⟨g.a, layR g.r d⟩ ++ (orcM o' ++ [stB sn x])) (.tuple #[])) := by
 have hw := fun (r : RigP) (i : Nat) (s : ByteArray) (h1 : Fine r) (h2 : i < 288) (h3 : s.size = 64) => writeF ⟨g.a, r⟩ d i s h1 (by omega) h2 h3
 simp only [← hrn] at hw
 refine fn_intro Tryz.func159 (by kernel_rfl) ?_
 repeat' ((conv => whnf); first
  | fail)
 all_goals (conv => whnf)
 refine loop_rule [18] (fun vs M m => ∃ (k : Nat) (q : Orc), vs = [.int .i64 k] ∧ k ≤ 63 ∧ q.on = o.on ∧ q.ts = layNT o.ts k ∧ m = 63 - k ∧ M = rgM ⟨g.a, layN g.r d k⟩ ++ (orcM q ++ [stB sn x])) rfl ?_ ?_
 · exact fin_all ⟨_, 0, o, rfl, by omega, rfl, by unfold layNT; rfl, rfl, by unfold layN; rfl⟩
 rintro vs junk M' m ⟨k, q, rfl, hk, hq1, hq2, rfl, rfl⟩
 by_cases hk6 : k < 63
 · have hl := layNT_len o.ts k
   have hB := Bare_ q (high k) (high_le k) (by rw [hq2]; omega)
   rw [hq1, ← hon, hq2] at hB
   have hH := high_ k hk6
   have hna := Tree.nodeAt_ok hk6
   have hww := hw (layN g.r d k) (161 + k) (bare (high k)).1 (fine_N hf d k) (by omega) (bare_size _)
   repeat' ((conv => whnf); first
    | refine call_val hH ?_ | refine call_val hna ?_ | refine call_val must_ok ?_ | refine ld1_row (n := sn) stC_1 ?_ | refine ld1_row (n := sn) stC_0 ?_ | (refine call_go hB (.one takeG) (fun q2 b1 b2 => ?_)) | refine nw_z (fun n => ?_) | refine force_of ?_ | refine need (dgV_len _) ?_ | refine st_dg ?_ | refine call_gr hww (.one takeG) ?_ | (refine wr (fun z hz => ?_); (try rw [Int.tdiv_eq_ediv_of_nonneg (by omega)] at hz); rw [w64 (by omega) (by omega)] at hz; subst hz) | (refine ifs (fun h => ?_) (fun h => ?_) <;> try (exfalso; first | omega | with_reducible first | contradiction | exact h rfl)))
   all_goals (conv => whnf)
   all_goals exact ⟨rfl, fin_g (A := rgM ⟨g.a, _⟩ ++ (orcM q2 ++ [stB sn x])) (.grp takeG (.grp takeG (.blk takeC .nil))) ⟨63 - (k + 1), by omega, k + 1, q2, rfl, by omega, by rw [b1, hq1], by rw [b2, layNT_s], rfl, by rw [layN_s]⟩⟩
 obtain rfl : k = 63 := by omega
 have hl0 := layNT_len o.ts 63
 repeat' ((conv => whnf); first
  | (refine ifs (fun h => ?_) (fun h => ?_) <;> try (exfalso; first | omega | with_reducible first | contradiction | exact h rfl)))
 all_goals (conv => whnf)
 refine loop_rule [51] (fun vs M m => ∃ (k : Nat) (q : Orc), vs = [.int .i64 k] ∧ k ≤ 64 ∧ q.on = o.on ∧ q.ts = layLT (layNT o.ts 63) k ∧ m = 64 - k ∧ M = rgM ⟨g.a, layL (layN g.r d 63) d k⟩ ++ (orcM q ++ [stB sn x])) rfl ?_ ?_
 · exact fin_all ⟨_, 0, q, rfl, by omega, hq1, by unfold layLT; exact hq2, rfl, by unfold layL; rfl⟩
 rintro vs junk2 M' m ⟨k, q3, rfl, hk, hq31, hq32, rfl, rfl⟩
 by_cases hk6 : k < 64
 · have hl := layLT_len (layNT o.ts 63) k
   have hB := Bare_ q3 0 (by omega) (by rw [hq32]; omega)
   rw [hq31, ← hon, hq32] at hB
   have hna := Tree.leafAt_ok hk6
   have hww := hw (layL (layN g.r d 63) d k) (224 + k) (bare 0).1 (fine_L (fine_N hf d 63) d k) (by omega) (bare_size _)
   repeat' ((conv => whnf); first
    | refine call_val hna ?_ | refine call_val must_ok ?_ | refine ld1_row (n := sn) stC_1 ?_ | refine ld1_row (n := sn) stC_0 ?_ | (refine call_go hB (.one takeG) (fun q2 b1 b2 => ?_)) | refine nw_z (fun n => ?_) | refine force_of ?_ | refine need (dgV_len _) ?_ | refine st_dg ?_ | refine call_gr hww (.one takeG) ?_ | (refine wr (fun z hz => ?_); (try rw [Int.tdiv_eq_ediv_of_nonneg (by omega)] at hz); rw [w64 (by omega) (by omega)] at hz; subst hz) | (refine ifs (fun h => ?_) (fun h => ?_) <;> try (exfalso; first | omega | with_reducible first | contradiction | exact h rfl)))
   all_goals (conv => whnf)
   all_goals exact ⟨rfl, fin_g (A := rgM ⟨g.a, _⟩ ++ (orcM q2 ++ [stB sn x])) (.grp takeG (.grp takeG (.blk takeC .nil))) ⟨64 - (k + 1), by omega, k + 1, q2, rfl, by omega, by rw [b1, hq31], by rw [b2, layLT_s], rfl, by rw [layL_s]⟩⟩
 obtain rfl : k = 64 := by omega
 repeat' ((conv => whnf); first
  | (refine ifs (fun h => ?_) (fun h => ?_) <;> try (exfalso; first | omega | with_reducible first | contradiction | exact h rfl)))
 all_goals (conv => whnf)
 exact fin_all ⟨q3, hq31, hq32, rfl, rfl⟩
noncomputable def frD (super : ByteArray) (d area : Nat) : Dg := D (startS super d area)
noncomputable def frB : ByteArray := recB 0 (bare 6).2
noncomputable def frA (super : ByteArray) (d area : Nat) : Dg := D (nextS (frD super d area) frB)
noncomputable def frJ (super : ByteArray) (d area : Nat) : JrP := addJ (jr0 super d area (frD super d area)) 0 (bare 6).2 frB
noncomputable def frR (r : RigP) (d area : Nat) : RigP := wrF (layR r d) d (1 + 80 * area) frB
noncomputable def frT (ts : List ByteArray) (super : ByteArray) (d area : Nat) : List ByteArray := addT (addT (BareT (layT ts) 6) (startS super d area)) (nextS (frD super d area) frB)
theorem fine_fr {r : RigP} (h : Fine r) (d area : Nat) : Fine (frR r d area) := (fine_lay h d).wrF _ _ _
theorem frT_len (ts : List ByteArray) (super : ByteArray) (d area : Nat) : (frT ts super d area).length ≤ ts.length + 1011 := by
 unfold frT
 have h1 := layT_len ts
 have h2 := BareT_len (layT ts) 6
 have h3 := addT_len (BareT (layT ts) 6) (startS super d area)
 have h4 := addT_len (addT (BareT (layT ts) 6) (startS super d area)) (nextS (frD super d area) frB)
 omega
theorem fresh_ (g : Rg) (o : Orc) (sn xn : Nat) (x : StP) (y : RgV) (d area : Nat) (hf : Fine g.r) (hrn : x.rn = g.a.rn) (hon : x.on = o.on) (hd : d ≤ 1) (ha : area ≤ 1) (hs : x.super.size = 64) (hb : o.ts.length ≤ 1099511610000) :
 Fnc Tryz.prog 94 [pt sn, pt xn, .int .i64 d, .int .i64 area] (rgM g ++ (orcM o ++ [stB sn x, rgB xn y]))
  (fun e A => ∃ (jn tn : Nat) (a : Tree.TreA) (o' : Orc), a.rn = x.rn ∧ a.on = x.on ∧ o'.on = o.on ∧ o'.ts = frT o.ts x.super d area ∧ e = .returned (.tuple #[]) ∧
    A = rgM ⟨g.a, frR g.r d area⟩ ++ (orcM o' ++ (jB jn g.a.rn o.on (frJ x.super d area) :: (Tree.treM tn ⟨a, ⟨d, (bare 6).2, [], []⟩⟩ ++ [stB sn ((x.setJ d (some ⟨jn, 0, none⟩)).setT d (some ⟨tn, 0, none⟩)), rgB xn (y.set d (frA x.super d area) area 1)])))) := by
 have h1 := lay_ g o sn x d hf hrn hon hd (by omega)
 have hl := layT_len o.ts
 have hl2 := BareT_len (layT o.ts) 6
 have h2 : ∀ q : Orc, q.on = o.on → q.ts = layT o.ts → Fnc Tryz.prog 160 [pt x.on, .int .i64 6] (orcM q) (RetO q (BareT (layT o.ts) 6) orcM (.tuple #[.string (bare 6).1, .agg (dgV (bare 6).2).toArray, .int .i64 0])) := fun q e1 e2 => by
  have := Bare_ q 6 (by omega) (by rw [e2]; omega)
  rw [e1, e2, ← hon] at this
  exact this
 have h3 := fun (q : Orc) (e1 : q.on = o.on) (e2 : q.ts = BareT (layT o.ts) 6) => begin_ ⟨g.a, layR g.r d⟩ q sn xn x y d area 0 (bare 6).2 (fine_lay hf d) hrn (hon.trans e1.symm) hd ha hs (by unfold seqOk; omega) (by rw [e2]; omega)
 have h4 := fun jn => plant_ sn (x.setJ d jn) d (bare 6).2 hd
 refine fn_intro Tryz.func94 (by kernel_rfl) ?_
 repeat' ((conv => whnf); first
  | (refine call_go h1 (.grp takeG (.grp takeG (.blk takeC .nil))) (fun q1 a1 a2 => ?_)) | (refine call_go (h2 q1 a1 a2) (.one takeG) (fun q2 b1 b2 => ?_)) | refine ld1_row (n := sn) stC_1 ?_ | refine nw_z (fun n => ?_) | refine force_of ?_ | refine need (dgV_len _) ?_ | refine st_dg ?_ | refine ldN_dg rfl ?_ | (refine bld_cons (vs := dgV (bare 6).2) (cs1 := rcC 0 (bare 6).2) rfl rfl (dgV_len _) (Nat.le_of_ble_eq_true rfl) (rz_e _) ?_; refine bld_nil ?_) | (refine call_g (h3 q2 (b1.trans a1) b2) (.grp takeG (.grp takeG (.blk takeC (.blk takeC .nil)))) (fun e A' hq => ?_); obtain ⟨jn, q3, c1, c2, c3, c4⟩ := hq; subst c3; subst c4) | (refine call_g (h4 _) (.blk takeC .nil) (fun e A' hq => ?_); obtain ⟨tn, a, d1, d2, d3, d4⟩ := hq; subst d3; subst d4))
 all_goals (conv => whnf)
 rw [b1.trans a1]
 exact fin_g (A := rgM ⟨g.a, _⟩ ++ (orcM q3 ++ (⟨jn, _⟩ :: (Tree.treM tn ⟨a, _⟩ ++ [stB sn _, rgB xn _])))) (.grp takeG (.grp takeG (.blk takeC (.grp takeG (.blk takeC (.blk takeC .nil)))))) ⟨jn, tn, a, q3, d1.trans (setJ_rn _ _ _).1, d2.trans (setJ_rn _ _ _).2, c1.trans (b1.trans a1), by rw [c2, b2]; rfl, rfl, rfl⟩
noncomputable def fmS (x : StP) (super : ByteArray) (jn0 tn0 jn1 tn1 : Nat) (y : RgV) : StP := { x with j0 := some ⟨jn0, 0, none⟩, t0 := some ⟨tn0, 0, none⟩, j1 := some ⟨jn1, 0, none⟩, t1 := some ⟨tn1, 0, none⟩, is := y }
noncomputable def fmV (super : ByteArray) : RgV := ⟨frA super 0 0, frA super 1 0, 1, 0, 0, 0, 1, 1, 0, 0, true⟩
theorem fmV_e (super : ByteArray) : (rg1.set 0 (frA super 0 0) 0 1).set 1 (frA super 1 0) 0 1 = fmV super := rfl
theorem fmV_ok (super : ByteArray) : (fmV super).ok := by
 constructor <;> first | exact Int.le_refl 0 | exact (by decide : (0 : Int) ≤ 1) | exact (by decide : (1 : Int) ≤ 4294967295) | exact (by decide : (0 : Int) ≤ 1099511627776) | exact (by decide : (0 : Int) ≤ 8) | exact (by decide : (0 : Int) ≤ 2) | exact (by decide : (0 : Int) ≤ 80) | exact (by decide : (1 : Int) ≤ 80) | exact .inl rfl | (intro h; cases h)
noncomputable def fmR (r : RigP) (super : ByteArray) : RigP := srF (flF (flF (frR (frR (wrF r 0 0 super) 0 0) 1 0) 0) 1) (fmV super).lay
noncomputable def fmT (ts : List ByteArray) (super : ByteArray) : List ByteArray := frT (frT ts super 0 0) super 1 0
theorem fine_fm {r : RigP} (h : Fine r) (super : ByteArray) : Fine (fmR r super) := fine_sr (fine_fl (fine_fl (fine_fr (fine_fr (h.wrF _ _ _) _ _) _ _) _) _) _
attribute [local irreducible] frR frT frA frJ fmV RgV.lay
def fmJ0 (x : StP) (jn tn : Nat) : StP := { x with j0 := some ⟨jn, 0, none⟩, t0 := some ⟨tn, 0, none⟩ }
def fmJ1 (x : StP) (jn tn : Nat) : StP := { x with j1 := some ⟨jn, 0, none⟩, t1 := some ⟨tn, 0, none⟩ }
theorem format1 (g : Rg) (o : Orc) (sn c4 c10 c12 : Nat) (x : StP) (hf : Fine g.r) (hrn : x.rn = g.a.rn) (hon : x.on = o.on) (hat : x.is.at_ = true) (hs : x.super.size = 64) (hb : o.ts.length ≤ 1099511600000) :
 Fnc Tryz.prog 91 [pt c4, pt c10, pt c12] (rgM g ++ (orcM o ++ [stB sn x, ⟨c4, .cells [pt g.a.rn] 35⟩, ⟨c10, .cells [.string x.super] 9⟩, ⟨c12, .cells [pt sn] 37⟩]))
  (fun e A => ∃ (jn0 tn0 jn1 tn1 : Nat) (a0 a1 : Tree.TreA) (o' : Orc), a0.rn = x.rn ∧ a0.on = x.on ∧ a1.rn = x.rn ∧ a1.on = x.on ∧ o'.on = o.on ∧ o'.ts = fmT o.ts x.super ∧ e = .returned (.tuple #[]) ∧
    A = rgM ⟨g.a, fmR g.r x.super⟩ ++ (orcM o' ++ (jB jn0 g.a.rn o.on (frJ x.super 0 0) :: (Tree.treM tn0 ⟨a0, ⟨0, (bare 6).2, [], []⟩⟩ ++ (jB jn1 g.a.rn o.on (frJ x.super 1 0) :: (Tree.treM tn1 ⟨a1, ⟨1, (bare 6).2, [], []⟩⟩ ++
      [stB sn (fmS x x.super jn0 tn0 jn1 tn1 (fmV x.super)), ⟨c4, .cells [pt g.a.rn] 35⟩, ⟨c10, .cells [.string x.super] 9⟩, ⟨c12, .cells [pt sn] 37⟩])))))) := by
 have h1 := writeF g 0 0 x.super hf (.inl rfl) (by omega) hs
 have h2 := devices_ sn x hat
 rw [show ((0 : Nat) : Int) = 0 from rfl] at h1
 have f0 : ∀ xn y, Fnc Tryz.prog 94 [pt sn, pt xn, .int .i64 0, .int .i64 0] (rgM ⟨g.a, wrF g.r 0 0 x.super⟩ ++ (orcM o ++ [stB sn x, rgB xn y])) (fun e A => ∃ (jn tn : Nat) (a : Tree.TreA) (o' : Orc), a.rn = x.rn ∧ a.on = x.on ∧ o'.on = o.on ∧ o'.ts = frT o.ts x.super 0 0 ∧ e = .returned (.tuple #[]) ∧
  A = rgM ⟨g.a, frR (wrF g.r 0 0 x.super) 0 0⟩ ++ (orcM o' ++ (jB jn g.a.rn o.on (frJ x.super 0 0) :: (Tree.treM tn ⟨a, ⟨0, (bare 6).2, [], []⟩⟩ ++ [stB sn (fmJ0 x jn tn), rgB xn (y.set 0 (frA x.super 0 0) 0 1)])))) := fun xn y => fresh_ ⟨g.a, wrF g.r 0 0 x.super⟩ o sn xn x y 0 0 (hf.wrF _ _ _) hrn hon (by omega) (by omega) hs (by omega)
 have f1 : ∀ (o1 : Orc) jn tn xn y, o1.on = o.on → o1.ts = frT o.ts x.super 0 0 → Fnc Tryz.prog 94 [pt sn, pt xn, .int .i64 1, .int .i64 0] (rgM ⟨g.a, frR (wrF g.r 0 0 x.super) 0 0⟩ ++ (orcM o1 ++ [stB sn (fmJ0 x jn tn), rgB xn y])) (fun e A => ∃ (jn' tn' : Nat) (a : Tree.TreA) (o' : Orc), a.rn = x.rn ∧ a.on = x.on ∧ o'.on = o.on ∧ o'.ts = fmT o.ts x.super ∧ e = .returned (.tuple #[]) ∧
  A = rgM ⟨g.a, frR (frR (wrF g.r 0 0 x.super) 0 0) 1 0⟩ ++ (orcM o' ++ (jB jn' g.a.rn o.on (frJ x.super 1 0) :: (Tree.treM tn' ⟨a, ⟨1, (bare 6).2, [], []⟩⟩ ++ [stB sn (fmJ1 (fmJ0 x jn tn) jn' tn'), rgB xn (y.set 1 (frA x.super 1 0) 0 1)])))) := fun o1 jn tn xn y e1 e2 => by
  have := fresh_ ⟨g.a, frR (wrF g.r 0 0 x.super) 0 0⟩ o1 sn xn (fmJ0 x jn tn) y 1 0 (fine_fr (hf.wrF _ _ _) _ _) hrn (hon.trans e1.symm) (by omega) (by omega) hs (by have := frT_len o.ts x.super 0 0; rw [e2]; omega)
  rw [e1, e2] at this
  exact this
 have h3 := fun jn tn jn' tn' => devices_ sn (fmJ1 (fmJ0 x jn tn) jn' tn') hat
 have h4 := fun ln jn tn jn' tn' => flush2 ⟨g.a, frR (frR (wrF g.r 0 0 x.super) 0 0) 1 0⟩ sn ln (fmJ1 (fmJ0 x jn tn) jn' tn') (fine_fr (fine_fr (hf.wrF _ _ _) _ _) _ _) hrn
 have h5 := fun jn tn jn' tn' => set_ ⟨g.a, flF (flF (frR (frR (wrF g.r 0 0 x.super) 0 0) 1 0) 0) 1⟩ sn (fmJ1 (fmJ0 x jn tn) jn' tn') (fmV x.super) (fine_fl (fine_fl (fine_fr (fine_fr (hf.wrF _ _ _) _ _) _ _) _) _) hrn (fmV_ok _)
 refine fn_intro Tryz.func91 (by kernel_rfl) ?_
 repeat' ((conv => whnf); first
  | refine nw_row (cs' := regC rg0) rg0_e (fun n => ?_) | refine st_rgl (y' := rg1) rg1_e.symm ?_ | refine call_gr h1 (.one takeG) ?_ | refine call_val must_ok ?_ | (refine call_g h2 (.blk takeC .nil) (fun e A' hq => ?_); obtain ⟨ln, a1, a2⟩ := hq; subst a1; subst a2) | refine loop_n 3 ?_ | refine nv_eq (a := 0) rfl ?_ | refine nv_eq (a := 1) rfl ?_ | refine draw_any 7 [(0, true), (1, false), (2, false), (3, false)] [⟨c12, _⟩] rfl (by kernel_rfl) (kept_of (.cons takeC .nil) ?_) | refine kept_of (.cons takeC .nil) ?_ | refine fld1 ?_ | (refine call_g (h3 _ _ _ _) (.blk takeC .nil) (fun e A' hq => ?_); obtain ⟨ln2, d1, d2⟩ := hq; subst d1; subst d2) | refine call_gr (h4 _ _ _ _ _) (.grp takeG (.blk takeC (.blk takeC .nil))) ?_ | refine ldN_whole (regC_len _) ?_ | (rw [fmV_e]; refine call_gr (h5 _ _ _ _) (.grp takeG (.blk takeC .nil)) ?_) | (refine call_g (f0 _ _) (.grp takeG (.grp takeG (.blk takeC (.blk takeC .nil)))) (fun e A' hq => ?_); obtain ⟨jn0, tn0, a0, o1, b1, b2, b3, b4, b5, b6⟩ := hq; subst b5; subst b6) | (refine call_g (f1 _ _ _ _ _ b3 b4) (.grp takeG (.grp takeG (.blk takeC (.blk takeC .nil)))) (fun e A' hq => ?_); obtain ⟨jn1, tn1, a1, o2, e1, e2, e3, e4, e5, e6⟩ := hq; subst e5; subst e6) | refine ld1_lit ?_ | refine bld ?_ | refine need (by first | rfl | omega) ?_ | (refine wr (fun z hz => ?_); (try rw [Int.tdiv_eq_ediv_of_nonneg (by omega)] at hz); rw [w64 (by omega) (by omega)] at hz; subst hz) | (refine ifs (fun h => ?_) (fun h => ?_) <;> try (exfalso; first | omega | with_reducible first | contradiction | exact h rfl)))
 all_goals (conv => whnf)
 exact fin_g (A := rgM ⟨g.a, _⟩ ++ (orcM o2 ++ (⟨jn0, _⟩ :: (Tree.treM tn0 ⟨a0, _⟩ ++ (⟨jn1, _⟩ :: (Tree.treM tn1 ⟨a1, _⟩ ++ [stB sn _, ⟨c4, _⟩, ⟨c10, _⟩, ⟨c12, _⟩])))))) (.grp takeG (.grp takeG (.blk takeC (.grp takeG (.blk takeC (.grp takeG (.blk takeC (.blk takeC (.blk takeC (.blk takeC .nil)))))))))) ⟨jn0, tn0, jn1, tn1, a0, a1, o2, b1, b2, e1, e2, e3, e4, rfl, rfl⟩
end Sto
end Go.Proofs.YtkjamonkohpcnaaGreat
